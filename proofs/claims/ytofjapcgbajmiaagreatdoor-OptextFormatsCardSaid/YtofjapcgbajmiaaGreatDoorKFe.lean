/- Walks and plain laws that the proof of the law OptextFormats stands on. No condition beyond those that each states. -/
import Derived.Test.YtofjapcgbajmiaaGreatDoorKFd
namespace Go.Proofs.YtofjapcgbajmiaaGreatDoor
open Go.RowKit
set_option maxRecDepth 100000
set_option maxHeartbeats 32000000
theorem rfmtInt_pos (n : Nat) (h1 : n ≤ 9223372036854775807) (w : World) :
  Calls Tryz.prog 25 #[.int .i64 n] w fun e w' => e = .returned (.string ⟨(dec n).toArray⟩) ∧ Below w.heap.size w w' := by
 go_enter Tryz.func25, Tryz.ntmps25
 go_wp2_with fail
 refine (rdigits_any 19 n _ (by omega) (by omega) (by omega)).mono ?_
 rintro e w1 ⟨rfl, hb1⟩
 go_wp2
 go_ret
 exact ⟨rfl, hb1⟩
theorem rfmtInt_neg (m : Nat) (h1 : m ≤ 9223372036854775807) (w : World) :
  Calls Tryz.prog 25 #[.int .i64 (-(m : Int) - 1)] w fun e w' => e = .returned (.string ⟨(45 :: dec (m + 1)).toArray⟩) ∧ Below w.heap.size w w' := by
 obtain ⟨n, hn⟩ : ∃ n : Int, n = -(m : Int) - 1 := ⟨_, rfl⟩
 rw [← hn]
 have ha : -(n + 1) = (m : Int) := by omega
 have hlt : ¬ 0 ≤ n := by omega
 have hr0 : -9223372036854775808 ≤ n := by omega
 have HN := hi_ hn
 clear hn
 go_enter Tryz.func25, Tryz.ntmps25
 go_wp2_with fail
 refine (rdigits_any 19 (m + 1) _ (by omega) (by omega) (by omega)).mono ?_
 rintro e w1 ⟨rfl, hb1⟩
 have hl := decD_len 20 (m + 1)
 go_wp2
 go_ret
 exact ⟨rfl, hb1⟩
theorem rfmtInt_any (n : Int) (h0 : -9223372036854775808 ≤ n) (h1 : n ≤ 9223372036854775807) (w : World) :
  Calls Tryz.prog 25 #[.int .i64 n] w fun e w' => e = .returned (.string ⟨(Lib.itoa n).toArray⟩) ∧ Below w.heap.size w w' := by
 by_cases h : 0 ≤ n
 ·
  rw [itoa_nonneg n h h1]
  have := rfmtInt_pos n.toNat (by omega) w
  rw [show ((n.toNat : Nat) : Int) = n from by omega] at this
  exact this
 ·
  rw [itoa_neg n (by omega) h0]
  have := rfmtInt_neg (n.natAbs - 1) (by omega) w
  rw [show -((n.natAbs - 1 : Nat) : Int) - 1 = n from by omega, show n.natAbs - 1 + 1 = n.natAbs from by omega] at this
  exact this
theorem rfmtUint32_any (v : Nat) (hv : v < 4294967296) (w : World) :
  Calls Tryz.prog 27 #[.int .u32 v] w fun e w' => e = .returned (.string ⟨(dec v).toArray⟩) ∧ Below w.heap.size w w' := by
 go_enter Tryz.func27, Tryz.ntmps27
 go_wp2_with fail
 refine (rdigits_any 19 v _ (by omega) (by omega) (by omega)).mono ?_
 rintro e w1 ⟨rfl, hb1⟩
 go_wp2
 go_ret
 exact ⟨rfl, hb1⟩
def idS (n : Int) : ByteArray := ⟨(Lib.itoa n).toArray⟩
theorem itoa_len (n : Int) (h0 : -9223372036854775808 ≤ n) (h1 : n ≤ 9223372036854775807) : (idS n).size ≤ 21 := by
 show (Lib.itoa n).length ≤ 21
 by_cases h : 0 ≤ n
 · rw [itoa_dec n h h1]; have : (dec n.toNat).length ≤ 20 := decD_len 20 _; omega
 · rw [itoa_neg n (by omega) h0, List.length_cons]; have : (dec n.natAbs).length ≤ 20 := decD_len 20 _; omega
theorem wf_i64 {n : Int} (h : (Lit.int .i64 n).wf = true) : -9223372036854775808 ≤ n ∧ n ≤ 9223372036854775807 := by
 have e1 : IntKind.i64.min = -9223372036854775808 := rfl
 have e2 : IntKind.i64.max = 9223372036854775807 := rfl
 simp only [Lit.wf, Bool.and_eq_true, decide_eq_true_eq] at h
 rw [e1, e2] at h
 exact h
theorem fmtI_any (n : Int) (hn : (Lit.int .i64 n).wf = true) (w : World) (ht : Tab w) : Calls Tryz.prog 45 #[.int .i64 n] w fun e w' => e = .returned (.string (idS n)) ∧ Below w.heap.size w w' :=
 fmtInt_any n (wf_i64 hn).1 (wf_i64 hn).2 w ht
def keyS (k : KmD) : ByteArray := ⟨(keyT k).toArray⟩
theorem key_str (k : KmD) : decS k.v ++ (⟨#[47]⟩ : ByteArray) ++ decS k.m = keyS k := by
 apply ByteArray.ext; apply Array.ext'; simp [decS, keyS, keyT]
theorem decS_size (v : Int) : (decS v).size ≤ 20 := decD_len 20 _
theorem keyS_size (k : KmD) : (keyS k).size ≤ 41 := by
 rw [← key_str, ByteArray.size_append, ByteArray.size_append]
 have := decS_size k.v
 have := decS_size k.m
 have : (⟨#[47]⟩ : ByteArray).size = 1 := rfl
 omega
def wordsI (nm : ByteArray) (ks : List KmD) (pr : Int) (cs : ByteArray) : List ByteArray := [⟨#[105, 110, 115, 101, 114, 116]⟩, nm] ++ ks.map keyS ++ [⟨#[112, 114, 105, 111, 114, 105, 116, 121]⟩, idS pr, ⟨#[45, 62]⟩, cs]
theorem keys_join : ∀ (ks : List KmD) (r : List (List UInt8)), Lib.joinTail [32] ((ks.map keyS).map (·.data.toList) ++ r) = keysT ks ++ Lib.joinTail [32] r
 | [], r => rfl
 | k :: ks, r => by
  have h := keys_join ks r
  simp only [Lib.joinTail, keysT, List.map_cons, List.cons_append, List.flatten_cons, List.append_assoc] at h ⊢
  rw [h]
  simp [keyS]
theorem ins_str (p : ProgD) (o : OpP) (hk : o.kind = 1) (nm cs : ByteArray) (hn : nm.data.toList = nameT p o.table) (hc : cs.data.toList = callT p o.ea o.eargs) :
  Lib.join ((wordsI nm o.keys o.prio cs).map (·.data.toList)) [32] = opT p o := by
 rw [opT, if_pos hk, wordsI, ← hn, ← hc]
 show Lib.join (wIns :: (([nm] ++ o.keys.map keyS ++ [_, idS o.prio, _, cs]).map (·.data.toList))) [32] = _
 rw [Lib.join_cons, List.map_append, List.map_append]
 have e : ([nm].map fun s : ByteArray => s.data.toList) ++ (o.keys.map keyS).map (fun s : ByteArray => s.data.toList) ++ ([(⟨#[112, 114, 105, 111, 114, 105, 116, 121]⟩ : ByteArray), idS o.prio, ⟨#[45, 62]⟩, cs].map fun s : ByteArray => s.data.toList)
   = nm.data.toList :: ((o.keys.map keyS).map (fun s : ByteArray => s.data.toList) ++ [wPrio, Lib.itoa o.prio, wArrow, cs.data.toList]) := by simp [idS, wPrio, wArrow]
 rw [e]
 show wIns ++ Lib.joinTail [32] (nm.data.toList :: _) = _
 have e2 : ∀ (x : List UInt8) (r : List (List UInt8)), Lib.joinTail [32] (x :: r) = [32] ++ x ++ Lib.joinTail [32] r := fun x r => by simp [Lib.joinTail]
 rw [e2, keys_join, e2, e2, e2, e2]
 simp [Lib.joinTail]
theorem mod_str (p : ProgD) (o : OpP) (hk : o.kind = 2) (nm cs : ByteArray) (hn : nm.data.toList = nameT p o.table) (hc : cs.data.toList = callT p o.ca o.cargs) :
  ((⟨#[109, 111, 100, 105, 102, 121, 32]⟩ : ByteArray) ++ nm ++ ((⟨#[32]⟩ : ByteArray) ++ idS o.id) ++ (⟨#[32, 45, 62, 32]⟩ : ByteArray) ++ cs) = ⟨(opT p o).toArray⟩ := by
 rw [opT, if_neg (by omega), if_pos hk, ← hn, ← hc]
 apply ByteArray.ext; apply Array.ext'; simp [idS, wMod, wArrow]
theorem del_str (p : ProgD) (o : OpP) (hk : o.kind = 3) (nm : ByteArray) (hn : nm.data.toList = nameT p o.table) :
  ((⟨#[100, 101, 108, 101, 116, 101, 32]⟩ : ByteArray) ++ nm ++ ((⟨#[32]⟩ : ByteArray) ++ idS o.id)) = ⟨(opT p o).toArray⟩ := by
 rw [opT, if_neg (by omega), if_neg (by omega), if_pos hk, ← hn]
 apply ByteArray.ext; apply Array.ext'; simp [idS, wDel]
theorem def_str (p : ProgD) (o : OpP) (hk : o.kind = 4) (nm cs : ByteArray) (hn : nm.data.toList = nameT p o.table) (hc : cs.data.toList = callT p o.ca o.cargs) :
  ((⟨#[100, 101, 102, 97, 117, 108, 116, 32]⟩ : ByteArray) ++ nm ++ (⟨#[32, 45, 62, 32]⟩ : ByteArray) ++ cs) = ⟨(opT p o).toArray⟩ := by
 rw [opT, if_neg (by omega), if_neg (by omega), if_neg (by omega), ← hn, ← hc]
 apply ByteArray.ext; apply Array.ext'; simp [wDef, wArrow]
theorem own_newS (w : World) (base : Nat) (l : List ByteArray) (hb : base ≤ w.heap.size) (hl : l.length ≤ 1000) : (w.alloc (.cells (strs l).toArray 9)).ownsRow base 9 1 (.slice (some ⟨w.heap.size, 0, none⟩) l.length l.length) l.length (strs l) :=
 ⟨by simp [strs], .inr ⟨w.heap.size, l.length, (strs l).toArray, rfl, hb, heap_alloc_new w _, Nat.le_refl _, by unfold maxLen; omega, by simp [strs], by simp [strs, List.take_of_length_le]⟩⟩
theorem callT_size {p : ProgD} {a : Int} {args : List Int} (h : GoodCall p a args) : (callT p a args).length ≤ 200 := by
 obtain ⟨j, rfl, hj, hl, hn⟩ := h
 rw [callT, nameA_at hj]
 have h1 : (argsX args).length ≤ 22 * args.length := by
  rw [argsX]
  have := join_len (args.map decI) [44, 32] 20 (fun x hx => by obtain ⟨v, _, rfl⟩ := List.mem_map.1 hx; exact decI_len20 v)
  rw [List.length_map] at this
  exact this
 have h2 : p.actions.l[j].name.data.toList.length ≤ 16 := hn
 simp only [List.length_append, List.length_cons, List.length_nil]
 omega
theorem callT_any (p : ProgD) (a : Int) (y : L Int) (w : World) (o : ProgOk w p) (h : GoodCall p a y.l) (hy : LOk w 1 ucell y) (hu : ∀ v ∈ y.l, (Lit.int .u32 v).wf = true) (ht : Tab w) :
  Calls Tryz.prog 47 #[.agg (progCells p), .agg #[.int .i64 a, .slice y.A y.l.length y.c]] w fun e w' => e = .returned (.string ⟨(callT p a y.l).toArray⟩) ∧ Below w.heap.size w w' := by
 obtain ⟨j, rfl, hj, hl, hn⟩ := h
 exact ocallT_any p j hj y w o hy hu (by omega) (by omega) ht
theorem one_sL {w : World} {g : Nat} {s : ByteArray} (h : Blk w g 9 #[.string s]) : LOk w 1 (fun s : ByteArray => [Value.string s]) ⟨[s], some ⟨g, 0, none⟩, 1⟩ := by
 refine ⟨by unfold maxLen; simp, .inr ⟨g, 0, rfl, h.lt, fun i hi j hj => ?_⟩⟩
 have hi' : i < 1 := hi
 rw [h.cell]
 match i, hi', j, hj with
 | 0, _, 0, _ => rfl
theorem four_sL {w : World} {g : Nat} {a b c d : ByteArray} (h : Blk w g 9 #[.string a, .string b, .string c, .string d]) : LOk w 1 (fun s : ByteArray => [Value.string s]) ⟨[a, b, c, d], some ⟨g, 0, none⟩, 4⟩ := by
 refine ⟨by unfold maxLen; simp, .inr ⟨g, 0, rfl, h.lt, fun i hi j hj => ?_⟩⟩
 have hi' : i < 4 := hi
 rw [h.cell]
 match i, hi', j, hj with
 | 0, _, 0, _ => rfl
 | 1, _, 0, _ => rfl
 | 2, _, 0, _ => rfl
 | 3, _, 0, _ => rfl
theorem join_words (nm : ByteArray) (kl : List KmD) (pr : Int) (CS : ByteArray) (T : List UInt8) (u : World) {B : Nat} {A : Option Addr} {c : Nat} (hE : Lib.join ((wordsI nm kl pr CS).map (·.data.toList)) [32] = T)
  (h : u.ownsRow B 9 1 (.slice A (kl.length + 2 + 4) c) (kl.length + 2 + 4) (strs ([⟨#[105, 110, 115, 101, 114, 116]⟩, nm] ++ kl.map keyS) ++ [⟨#[112, 114, 105, 111, 114, 105, 116, 121]⟩, idS pr, ⟨#[45, 62]⟩, CS].flatMap (fun s : ByteArray => [Value.string s])))
  (hl : kl.length ≤ 6) (hn : nm.size ≤ 16) (hc : CS.size ≤ 200) (hp : (idS pr).size ≤ 21) :
  Calls Tryz.prog 48 #[.slice A (kl.length + 2 + 4) c, .string ⟨#[32]⟩] u fun e w' => e = .returned (.string ⟨T.toArray⟩) ∧ Below u.heap.size u w' := by
 have e1 : (wordsI nm kl pr CS).length = kl.length + 2 + 4 := by simp [wordsI]
 have e2 : strs (wordsI nm kl pr CS) = strs ([⟨#[105, 110, 115, 101, 114, 116]⟩, nm] ++ kl.map keyS) ++ [⟨#[112, 114, 105, 111, 114, 105, 116, 121]⟩, idS pr, ⟨#[45, 62]⟩, CS].flatMap (fun s : ByteArray => [Value.string s]) := by
  rw [wordsI, strs, List.map_append]; rfl
 have h1 := join_any (wordsI nm kl pr CS) ⟨#[32]⟩ u (B := B) (A := A) (c := c) (by rw [e1, e2]; exact h) (by omega) (by
  refine Nat.le_trans (join_len _ _ 300 ?_) ?_
  ·
   intro x hx
   obtain ⟨s, hs, rfl⟩ := List.mem_map.1 hx
   show s.size ≤ 300
   simp only [wordsI, List.mem_append, List.mem_cons, List.not_mem_nil, or_false] at hs
   rcases hs with ((rfl | rfl) | hs) | (rfl | rfl | rfl | rfl)
   · exact (by decide : (6 : Nat) ≤ 300)
   · omega
   ·
    obtain ⟨k, _, rfl⟩ := List.mem_map.1 hs
    have := keyS_size k; omega
   · exact (by decide : (8 : Nat) ≤ 300)
   · omega
   · exact (by decide : (2 : Nat) ≤ 300)
   · omega
  ·
   rw [List.length_map, e1]
   have : (300 + [(32 : UInt8)].length) * (kl.length + 2 + 4) ≤ 301 * 12 := Nat.mul_le_mul (Nat.le_refl _) (by omega)
   exact Nat.le_trans this (by decide))
 rw [e1, hE] at h1
 exact h1
theorem oformat_any (p : ProgD) (x : OpD) (w : World) (o : ProgOk w p) (hck : checkM p = none) (hc : ∀ t ∈ p.tables.l, (Lit.int .i64 t.defA).wf = true) (hx : OpOk w x) (hf : OpFine x.bare) (ht : Tab w) :
  Calls Tryz.prog 22 #[.agg (progCells p), .agg (opCells x)] w fun e w' => e = .returned (.tuple #[.string ⟨(fmtOp p x.bare).1.toArray⟩, .int .i64 (fmtOp p x.bare).2]) ∧ Below w.heap.size w w' := by
 obtain ⟨W, hW, hw, HB, hp⟩ := box2 w (progCells p) 31 (opCells x) 39
 have HW := hi_ hw
 have HCk := hi_ (fun u (hb : Below W.heap.size W u) => ocheck_any p x u (o.below (below_step hw hb)) hck hc (hx.below (below_step hw hb)) hf)
 have HFo := hi_ (fmtOp.eq_1 p x.bare)
 by_cases hz : opChk p x.bare = 0
 case neg =>
  have hz' : (opChk p x.bare != 0) = true := bne_iff_ne.2 hz
  rw [if_pos hz] at HFo
  have HR := hi_ HFo.out
  generalize fmtOp p x.bare = R at *
  generalize opChk p x.bare = z at *
  clear HFo hz o hck hc hx hf ht hw
  go_enter Tryz.func22, Tryz.ntmps22
  go_upto_region 1 with fail
  rw [← hW]
  clear hW
  have hp3 := (hp W HB).1
  have hp4 := (hp W HB).2
  go_wp2_with fail
  refine (HCk.out _ (by first | exact HB | exact ba1 HB | exact ba2 HB | exact ba3 HB)).mono ?_
  rintro e w1 ⟨rfl, hbN⟩
  replace HB := below_step (by first | exact HB | exact ba1 HB | exact ba2 HB | exact ba3 HB) hbN
  clear hbN
  go_wp2
  go_ret2
  exact ⟨by rw [HR.out]; rfl, below_step HW.out HB⟩
 have HR : Hid (fmtOp p x.bare = (opT p x.bare, 0)) := tr_ HFo (if_neg (fun h => h hz))
 have HG := hi_ (good_op hck hz)
 rw [hz] at HCk
 rw [HR.out]
 clear HFo HR hz
 simp only
 obtain ⟨i, hti, hi, hns⟩ := HG.out.table
 have HFI := hi_ (fun u (hb : Below W.heap.size W u) => fmtI_any x.id hf.id u (ht.base (below_step hw hb)))
 have HFP := hi_ (fun u (hb : Below W.heap.size W u) => fmtI_any x.prio hf.prio u (ht.base (below_step hw hb)))
 have HFK := hi_ (fun (k : KmD) (hk : k ∈ x.keys.l) u (hb : Below W.heap.size W u) => And.intro (fmtU_any k.v (hf.keys k hk).1 u (ht.base (below_step hw hb))) (fun (u2 : World) (hb2 : Below W.heap.size W u2) => fmtU_any k.m (hf.keys k hk).2 u2 (ht.base (below_step hw hb2))))
 have HCE := hi_ (fun (h : GoodCall p x.ea x.eargs.l) u (hb : Below W.heap.size W u) => callT_any p x.ea x.eargs u (o.below (below_step hw hb)) h (hx.eargs.below (below_step hw hb) (Nat.le_refl _)) hf.eargs (ht.base (below_step hw hb)))
 have HCC := hi_ (fun (h : GoodCall p x.ca x.cargs.l) u (hb : Below W.heap.size W u) => callT_any p x.ca x.cargs u (o.below (below_step hw hb)) h (hx.cargs.below (below_step hw hb) (Nat.le_refl _)) hf.cargs (ht.base (below_step hw hb)))
 have HKX := hi_ (hx.keys.below hw (Nat.le_refl _))
 have hidz := itoa_len x.id (wf_i64 hf.id).1 (wf_i64 hf.id).2
 have HPz := hi_ (itoa_len x.prio (wf_i64 hf.prio).1 (wf_i64 hf.prio).2)
 obtain ⟨g, of, hA, hq⟩ := TabD.atA (o.tables.below hw (Nat.le_refl _)) hi
 have hn1 : (i : Int) < (p.tables.l.length : Int) := by omega
 have HNT : Hid (p.tables.l[i].name.data.toList = nameT p x.bare.table) := hi_ (by rw [hti, nameT_at hi])
 have HMS := hi_ (mod_str p x.bare)
 have HDS := hi_ (del_str p x.bare)
 have HFS := hi_ (def_str p x.bare)
 have HIS := hi_ (ins_str p x.bare)
 have HCz1 := hi_ (fun (h : GoodCall p x.ea x.eargs.l) => callT_size h)
 have HCz2 := hi_ (fun (h : GoodCall p x.ca x.cargs.l) => callT_size h)
 have HQ := hi_ (fun w' (h : Below W.heap.size W w') => (hq w' h).1)
 obtain ⟨nm, hnm⟩ : ∃ nm, nm = p.tables.l[i].name := ⟨_, rfl⟩
 rw [← hnm] at HNT HQ hns
 obtain ⟨T, hT⟩ : ∃ T, T = opT p x.bare := ⟨_, rfl⟩
 rw [← hT] at HMS HDS HFS HIS ⊢
 obtain ⟨kd, tb, id, ⟨kl, kA, kc⟩, pr, ea, eg, ca, cg⟩ := x
 simp only [OpD.bare] at HNT HMS HDS HFS HIS HG HKX hti hidz HPz HFI HFP HFK HCE HCC HCz1 HCz2
 subst hti
 clear hq o hck hc hx hf ht hw hnm hT
 simp only [progCells, opCells, L.v, hA] at hp hW HCk HCE HCC ⊢
 clear hA
 go_enter Tryz.func22, Tryz.ntmps22
 go_upto_region 1 with fail
 rw [← hW]
 clear hW
 have hp3 := (hp W HB).1
 have hp4 := (hp W HB).2
 go_wp2_with fail
 refine (HCk.out _ (by first | exact HB | exact ba1 HB | exact ba2 HB | exact ba3 HB)).mono ?_
 rintro e w1 ⟨rfl, hbN⟩
 replace HB := below_step (by first | exact HB | exact ba1 HB | exact ba2 HB | exact ba3 HB) hbN
 clear hbN
 clear hp3 hp4
 have hp3 := (hp _ HB).1
 have hp4 := (hp _ HB).2
 have hq3 := HQ.out _ HB
 go_wp2_with fail
 refine (HFI.out _ (by first | exact HB | exact ba1 HB | exact ba2 HB | exact ba3 HB)).mono ?_
 rintro e w2 ⟨rfl, hbN⟩
 replace HB := below_step (by first | exact HB | exact ba1 HB | exact ba2 HB | exact ba3 HB) hbN
 clear hbN
 clear hp3 hp4 hq3
 have hp3 := (hp _ HB).1
 have hp4 := (hp _ HB).2
 have z1 : ¬ ((⟨#[32]⟩ : ByteArray).size + (idS id).size > 9223372036854775807) := by have : (⟨#[32]⟩ : ByteArray).size = 1 := rfl; omega
 have z2 : ¬ (1 + (idS id).size > 9223372036854775807) := by omega
 obtain ⟨IDS, hIDS⟩ : ∃ s, s = idS id := ⟨_, rfl⟩
 rw [← hIDS] at z1 z2 hidz HMS HDS ⊢
 clear hIDS
 rcases HG.out.kind with hk | hk | hk | hk
 ·
  have HGI := hi_ (HG.out.ins hk)
  have HE0 := hi_ (fun cs hc => HIS.out hk nm cs HNT.out hc)
  clear HMS HDS HFS HIS
  simp only at hk HGI HE0
  subst hk
  have HKl : Hid (kl.length ≤ 6) := hi_ HGI.out.1
  have hcz := HCz1.out HGI.out.2.2.2
  have HC9 := hi_ (fun u hb => HCE.out HGI.out.2.2.2 u hb)
  obtain ⟨CS, hCS⟩ : ∃ s : ByteArray, s = ⟨(callT p ea eg.l).toArray⟩ := ⟨_, rfl⟩
  have HE := hi_ (HE0.out CS (by rw [hCS]))
  have hcs : CS.size ≤ 200 := by rw [hCS]; exact hcz
  rw [← hCS] at HC9
  clear hcz hCS HE0
  have HPsz := HPz
  go_upto_region 9 with fail
  obtain ⟨Y, hY⟩ : ∃ Y, Y = w2.alloc (.cells #[.string ⟨#[105, 110, 115, 101, 114, 116]⟩, .string nm] 9) := ⟨_, rfl⟩
  have HWY : Hid (Below W.heap.size W Y) := hi_ (by rw [hY]; exact below_alloc HB _)
  have HOY : Hid (Y.ownsRow w2.heap.size 9 1 (.slice (some ⟨w2.heap.size, 0, none⟩) 2 2) 2 (strs [⟨#[105, 110, 115, 101, 114, 116]⟩, nm])) := hi_ (by rw [hY]; exact own_newS w2 _ [⟨#[105, 110, 115, 101, 114, 116]⟩, nm] (Nat.le_refl _) (by simp))
  have HBY : Hid (w2.heap.size ≤ Y.heap.size) := hi_ (by rw [hY]; simp)
  have HWB : Hid (W.heap.size ≤ w2.heap.size) := hi_ HB.size
  rw [← hY]
  clear hY hp3 hp4 HB
  obtain ⟨B, hB⟩ : ∃ B, B = w2.heap.size := ⟨_, rfl⟩
  replace HOY : Hid (Y.ownsRow B 9 1 (.slice (some ⟨w2.heap.size, 0, none⟩) 2 2) 2 (strs [⟨#[105, 110, 115, 101, 114, 116]⟩, nm])) := hi_ (by rw [hB]; exact HOY.out)
  rw [← hB] at HBY HWB
  have HBe := hi_ hB
  have hp4 := (hp Y HWY.out).2
  obtain ⟨i0, hi, hz0, hz1, hz2⟩ := info_parts Tryz.infoString
  go_wp2
  clear hp4
  go_loopw [9, 11, 39] (fun lv _ iv wr => ∃ (k : Nat) (A : Option Addr) (c : Nat), k ≤ kl.length ∧ iv = .int .i64 k ∧ lv = .slice A (k + 2) c ∧ Hid (wr.ownsRow B 9 1 (.slice A (k + 2) c) (k + 2) (strs ([⟨#[105, 110, 115, 101, 114, 116]⟩, nm] ++ (kl.take k).map keyS))) ∧ Below W.heap.size W wr ∧ Hid (B ≤ wr.heap.size))
   (fun _ _ i _ => kl.length - (intOf i).toNat)
  case atStart => exact ⟨0, some ⟨w2.heap.size, 0, none⟩, 2, Nat.zero_le _, rfl, rfl, HOY, HWY.out, HBY⟩
  case round =>
   obtain ⟨k, A, c, hk, rfl, rfl, HOw, HB, HBs⟩ := hrel
   by_cases hlt : k < kl.length
   ·
    obtain ⟨g2, of2, hA2, hd⟩ := KmD.atA HKX.out hlt
    obtain ⟨d0, d1⟩ := hd wr HB
    have HF0 := hi_ (HFK.out _ (List.getElem_mem hlt))
    have HTk : Hid (strs ([⟨#[105, 110, 115, 101, 114, 116]⟩, nm] ++ (kl.take (k + 1)).map keyS) = strs ([⟨#[105, 110, 115, 101, 114, 116]⟩, nm] ++ (kl.take k).map keyS) ++ [keyS kl[k]].flatMap (fun s : ByteArray => [Value.string s])) := hi_ (by
     rw [take_snoc kl k hlt, List.map_append, ← List.append_assoc, strs, List.map_append]; rfl)
    have HLT : Hid (k + 1 ≤ kl.length) := hi_ hlt
    simp only at hA2 d0 d1
    subst hA2
    clear hd
    generalize kl[k] = km0 at *
    obtain ⟨kv, km⟩ := km0
    simp only at d0 d1 HF0
    have HF : Hid ((∀ u, Below W.heap.size W u → Calls Tryz.prog 46 #[.int .u32 kv] u fun e w' => e = .returned (.string (decS kv)) ∧ Below u.heap.size u w') ∧ (∀ u, Below W.heap.size W u → Calls Tryz.prog 46 #[.int .u32 km] u fun e w' => e = .returned (.string (decS km)) ∧ Below u.heap.size u w')) := hi_ ⟨fun u h => (HF0.out u h).1, fun u h => (HF0.out u h).2 u h⟩
    have HKS := hi_ (key_str ⟨kv, km⟩)
    have hsv := decS_size kv
    have hsm := decS_size km
    simp only at HKS
    obtain ⟨sv, hsv0⟩ : ∃ s, s = decS kv := ⟨_, rfl⟩
    obtain ⟨sm, hsm0⟩ : ∃ s, s = decS km := ⟨_, rfl⟩
    rw [← hsv0] at hsv HKS HF
    rw [← hsm0] at hsm HKS HF
    clear hsv0 hsm0 HF0
    have y1 : ¬ (sv.size + (⟨#[47]⟩ : ByteArray).size > 9223372036854775807) := by have : (⟨#[47]⟩ : ByteArray).size = 1 := rfl; omega
    have y2 : ¬ (sv.size + 1 > 9223372036854775807) := by omega
    have y3 : ¬ ((sv ++ (⟨#[47]⟩ : ByteArray)).size + sm.size > 9223372036854775807) := by rw [ByteArray.size_append]; have : (⟨#[47]⟩ : ByteArray).size = 1 := rfl; omega
    have y4 : ¬ (sv.size + 1 + sm.size > 9223372036854775807) := by omega
    obtain ⟨X, hX⟩ : ∃ X, X = wr.alloc (.cells #[.int .u32 kv, .int .u32 km] 68) := ⟨_, rfl⟩
    have HXB : Hid (Blk X wr.heap.size 68 #[.int .u32 kv, .int .u32 km]) := hi_ (by rw [hX]; exact Blk.new _ _ _)
    have HBX : Hid (Below W.heap.size W X) := hi_ (by rw [hX]; exact below_alloc HB _)
    have HOX : Hid (X.ownsRow B 9 1 (.slice A (k + 2) c) (k + 2) (strs ([⟨#[105, 110, 115, 101, 114, 116]⟩, nm] ++ (kl.take k).map keyS))) := hi_ (by rw [hX]; exact HOw.out.alloc _)
    have HWX : Hid (wr.heap.size ≤ X.heap.size) := hi_ (by rw [hX]; simp)
    go_upto_region 12 with fail
    rw [← hX]
    clear hX d0 d1 HB
    refine wp_region_held_drew (S := (fun u => u.cell? ⟨wr.heap.size, 0, none⟩ = some (.int .u32 kv) ∧ u.cell? ⟨wr.heap.size, 1, none⟩ = some (.int .u32 km))) (by kernel_rfl) (⟨(HXB.out.below (below_drew (Below.refl _ _)) HXB.out.lt).cell 0, (HXB.out.below (below_drew (Below.refl _ _)) HXB.out.lt).cell 1⟩) (fun hHeld => ?_)
    refine wpAnyH_take (i := 0) (oi := { dst := some 43, op := Op.move (Operand.tmp 9), type := 86, pos := "optext.go:65", after := #[], guard := none }) (v := ?a1_v0) rfl (by kernel_rfl) (by kernel_rfl) (by kernel_rfl) (fun _ _ _ h => h) (Or.inl ⟨by rfl, ?a1_y0⟩) (by assumption) ?a1_r0
    case a1_y0 => (intro w hSw; (try dsimp only at hSw); go_simp; try (with_reducible rfl))
    try simp only [Act.put, sA, sZ, sS]
    refine wpAnyH_take (i := 1) (oi := { dst := some 44, op := Op.fieldAddr 68 (Operand.tmp 11) 0, type := 0, pos := "optext.go:65", after := #[], guard := none }) (v := ?a2_v1) rfl (by kernel_rfl) (by kernel_rfl) (by kernel_rfl) (fun _ _ _ h => h) (Or.inl ⟨by rfl, ?a2_y1⟩) (by assumption) ?a2_r1
    case a2_y1 => (intro w hSw; (try dsimp only at hSw); go_simp; try (with_reducible rfl))
    try simp only [Act.put, sA, sZ, sS]
    refine wpAnyH_take (i := 2) (oi := { dst := some 45, op := Op.load 66 (Operand.tmp 44), type := 66, pos := "optext.go:65", after := #[{ on := 1, ground := Ground.data }], guard := none }) (v := ?a3_v2) rfl (by kernel_rfl) (by kernel_rfl) (by kernel_rfl) (fun _ _ _ h => h) (Or.inl ⟨by rfl, ?a3_y2⟩) (by assumption) ?a3_r2
    case a3_y2 => (intro w hSw; (try dsimp only at hSw); go_simp; try (with_reducible rfl))
    try simp only [Act.put, sA, sZ, sS]
    refine wpAnyH_take (i := 5) (oi := { dst := some 48, op := Op.fieldAddr 68 (Operand.tmp 11) 1, type := 0, pos := "optext.go:65", after := #[], guard := none }) (v := ?a4_v5) rfl (by kernel_rfl) (by kernel_rfl) (by kernel_rfl) (fun _ _ _ h => h) (Or.inl ⟨by rfl, ?a4_y5⟩) (by assumption) ?a4_r5
    case a4_y5 => (intro w hSw; (try dsimp only at hSw); go_simp; try (with_reducible rfl))
    try simp only [Act.put, sA, sZ, sS]
    refine wpAnyH_take (i := 6) (oi := { dst := some 49, op := Op.load 66 (Operand.tmp 48), type := 66, pos := "optext.go:65", after := #[{ on := 5, ground := Ground.data }], guard := none }) (v := ?a5_v6) rfl (by kernel_rfl) (by kernel_rfl) (by kernel_rfl) (fun _ _ _ h => h) (Or.inl ⟨by rfl, ?a5_y6⟩) (by assumption) ?a5_r6
    case a5_y6 => (intro w hSw; (try dsimp only at hSw); go_simp; try (with_reducible rfl))
    try simp only [Act.put, sA, sZ, sS]
    refine wpAnyH_ready (rs := [3]) (by kernel_rfl) (by simp) ?_
    refine AllReadyH.cons (o := { dst := some 46, op := Op.call { callee := Callee.value (Operand.func 46), args := #[Operand.tmp 45], argTypes := #[66] }, type := 9, pos := "optext.go:65", after := #[{ on := 2, ground := Ground.data }], guard := none }) rfl (fun K hK => ?_) (AllReadyH.nil)
    go_simp
    go_at_call 46
    refine (HF.out.1 _ (below_step HBX.out (below_drew (Below.refl _ _)))).mono ?_
    rintro e w3 ⟨rfl, hb3⟩
    have HX3 : Hid (Below X.heap.size X w3) := hi_ (below_step (below_drew (Below.refl _ _)) hb3)
    clear hb3
    have hNEW : w3.cell? ⟨wr.heap.size, 0, none⟩ = some (.int .u32 kv) ∧ w3.cell? ⟨wr.heap.size, 1, none⟩ = some (.int .u32 km) := ⟨(HXB.out.below HX3.out HXB.out.lt).cell 0, (HXB.out.below HX3.out HXB.out.lt).cell 1⟩
    refine hK.out _ _ hNEW (fun hHeld5 => ?_)
    clear hK K hNEW
    refine wpAnyH_take (i := 4) (oi := { dst := some 47, op := Op.binOp BinOp.add 9 (Operand.tmp 46) (Operand.const (Value.string { data := #[47] })) 9, type := 9, pos := "optext.go:65", after := #[{ on := 3, ground := Ground.data }], guard := none }) (v := ?a6_v4) rfl (by kernel_rfl) (by kernel_rfl) (by kernel_rfl) (fun _ _ _ h => h) (Or.inl ⟨by rfl, ?a6_y4⟩) (by assumption) ?a6_r4
    case a6_y4 => (intro w hSw; (try dsimp only at hSw); go_simp; try (with_reducible rfl))
    try simp only [Act.put, sA, sZ, sS]
    refine wpAnyH_ready (rs := [7]) (by kernel_rfl) (by simp) ?_
    refine AllReadyH.cons (o := { dst := some 50, op := Op.call { callee := Callee.value (Operand.func 46), args := #[Operand.tmp 49], argTypes := #[66] }, type := 9, pos := "optext.go:65", after := #[{ on := 6, ground := Ground.data }, { on := 3, ground := Ground.chain }], guard := none }) rfl (fun K hK => ?_) (AllReadyH.nil)
    go_simp
    go_at_call 46
    refine (HF.out.2 _ (below_step HBX.out HX3.out)).mono ?_
    rintro e w4 ⟨rfl, hb4⟩
    have HX4 : Hid (Below X.heap.size X w4) := hi_ (below_step HX3.out hb4)
    clear hb4
    have hNEW : w4.cell? ⟨wr.heap.size, 0, none⟩ = some (.int .u32 kv) ∧ w4.cell? ⟨wr.heap.size, 1, none⟩ = some (.int .u32 km) := ⟨(HXB.out.below HX4.out HXB.out.lt).cell 0, (HXB.out.below HX4.out HXB.out.lt).cell 1⟩
    refine hK.out _ _ hNEW (fun hHeld6 => ?_)
    clear hK K hNEW
    refine wpAnyH_take (i := 8) (oi := { dst := some 51, op := Op.binOp BinOp.add 9 (Operand.tmp 47) (Operand.tmp 50) 9, type := 9, pos := "optext.go:65", after := #[{ on := 4, ground := Ground.data }, { on := 7, ground := Ground.data }], guard := none }) (v := ?a7_v8) rfl (by kernel_rfl) (by kernel_rfl) (by kernel_rfl) (fun _ _ _ h => h) (Or.inl ⟨by rfl, ?a7_y8⟩) (by assumption) ?a7_r8
    case a7_y8 => (intro w hSw; (try dsimp only at hSw); go_simp; try (with_reducible rfl))
    try simp only [Act.put, sA, sZ, sS]
    refine wpAnyH_ready (rs := [9]) (by kernel_rfl) (by simp) ?_
    refine AllReadyH.cons (o := { dst := some 52, op := Op.buildSlice 86 1 #[(0, Operand.tmp 51)], type := 86, pos := "optext.go:65", after := #[{ on := 8, ground := Ground.data }], guard := none }) rfl (fun K hK => ?_) (AllReadyH.nil)
    go_simp
    obtain ⟨U, hU⟩ : ∃ U, U = (w4.alloc (.cells #[.string (sv ++ ⟨#[47]⟩ ++ sm)] 9)) := ⟨_, rfl⟩
    have HXU : Hid (Below X.heap.size X U) := hi_ (below_step HX4.out (by rw [hU]; exact below1 _ _))
    have HNW : Hid (Blk U w4.heap.size 9 #[.string (sv ++ ⟨#[47]⟩ ++ sm)]) := hi_ (by rw [hU]; exact Blk.new _ _ _)
    have HOU := hi_ (ownsRow_below HOX.out HXU.out)
    have HBU : Hid (B ≤ U.heap.size) := hi_ (Nat.le_trans HBs.out (Nat.le_trans HWX.out HXU.out.size))
    have hNEW : (w4.alloc (.cells #[.string (sv ++ ⟨#[47]⟩ ++ sm)] 9)).cell? ⟨wr.heap.size, 0, none⟩ = some (.int .u32 kv) ∧ (w4.alloc (.cells #[.string (sv ++ ⟨#[47]⟩ ++ sm)] 9)).cell? ⟨wr.heap.size, 1, none⟩ = some (.int .u32 km) := by rw [← hU]; exact ⟨(HXB.out.below HXU.out HXB.out.lt).cell 0, (HXB.out.below HXU.out HXB.out.lt).cell 1⟩
    refine hK.out _ _ hNEW (fun hHeld7 => ?_)
    clear hK K hNEW
    rw [← hU]
    clear hU
    refine wpAnyH_ready (rs := [10]) (by kernel_rfl) (by simp) ?_
    refine AllReadyH.cons (o := { dst := some 53, op := Op.call { callee := Callee.builtin Builtin.append, args := #[Operand.tmp 43, Operand.tmp 52], argTypes := #[86, 86] }, type := 86, pos := "optext.go:65", after := #[{ on := 0, ground := Ground.data }, { on := 9, ground := Ground.data }, { on := 7, ground := Ground.chain }], guard := none }) rfl (fun K hK => ?_) (AllReadyH.nil)
    rw [if_pos (by rfl)]
    refine opwp_append_O (.tmp 43) (.tmp 52) 86 rfl B 9 i0 _ 1 16 Tryz.underlying86 hi hz0 hz1 hz2 rfl (by decide) _ _ _ rfl HOU.out (cells := (fun s : ByteArray => [Value.string s])) ⟨[sv ++ ⟨#[47]⟩ ++ sm], some ⟨w4.heap.size, 0, none⟩, 1⟩ rfl (one_sL HNW.out) (fun h => by cases h) (fun _ => rfl) (fun s c hc => by simp only [List.mem_singleton] at hc; subst hc; rfl) ?j11 ?j12 ?j13 ?_
    case j11 => have := HKl.out; unfold maxLen; simp only [List.length_cons, List.length_nil]; omega
    case j12 => have := HKl.out; simp only [List.length_cons, List.length_nil]; omega
    case j13 => exact HBU.out
    intro v6 w6 hown6 hgr6
    have hBW : Below B U w6 := grown_below HOU.out hgr6 HBU.out
    have HXW : Hid (Below W.heap.size W w6) := hi_ ((below_step HBX.out HXU.out).trans (hBW.mono HWB.out))
    have HB6 : Hid (B ≤ w6.heap.size) := hi_ (Nat.le_trans HBU.out hBW.size)
    have hne : (Value.slice A (k + 2) c).ownBlock ≠ some wr.heap.size := fun e => by have := (own_ltO HOw.out _ e).2; omega
    have hXB6 : Blk w6 wr.heap.size 68 #[.int .u32 kv, .int .u32 km] := (HXB.out.below HXU.out HXB.out.lt).grown hgr6 (fun e => hne e.symm)
    obtain ⟨A6, c6, rfl⟩ := row_sliceO hown6
    have HO6 := hi_ hown6
    have hNEW : w6.cell? ⟨wr.heap.size, 0, none⟩ = some (.int .u32 kv) ∧ w6.cell? ⟨wr.heap.size, 1, none⟩ = some (.int .u32 km) := ⟨hXB6.cell 0, hXB6.cell 1⟩
    refine hK.out _ _ hNEW (fun hHeld8 => ?_)
    clear hK K hNEW hown6 hgr6 hBW hne hXB6
    try simp only [Act.put, sA, sZ, sS]
    refine wpAnyH_take (i := 11) (oi := { dst := some 9, op := Op.assign (Operand.tmp 53), type := 86, pos := "optext.go:65", after := #[{ on := 10, ground := Ground.data }, { on := 10, ground := Ground.chain }, { on := 0, ground := Ground.phase }, { on := 1, ground := Ground.phase }, { on := 2, ground := Ground.phase }, { on := 3, ground := Ground.phase }, { on := 4, ground := Ground.phase }, { on := 5, ground := Ground.phase }, { on := 6, ground := Ground.phase }, { on := 7, ground := Ground.phase }, { on := 8, ground := Ground.phase }, { on := 9, ground := Ground.phase }, { on := 10, ground := Ground.phase }], guard := none }) (v := ?a8_v11) rfl (by kernel_rfl) (by kernel_rfl) (by kernel_rfl) (fun _ _ _ h => h) (Or.inl ⟨by rfl, ?a8_y11⟩) (by assumption) ?a8_r11
    case a8_y11 => (intro w hSw; (try dsimp only at hSw); go_simp; try (with_reducible rfl))
    try simp only [Act.put, sA, sZ, sS]
    refine wpAnyH_done (by kernel_rfl) ?_ _
    have hk6 := HKl.out
    have hk7 := HLT.out
    go_wp2
    go_roundw
    case rel => exact ⟨k + 1, A6, c6, HLT.out, by go_num, by first | rfl | (congr 1; omega), by (have h := HO6.out; rw [show sv ++ (⟨#[47]⟩ : ByteArray) ++ sm = keyS ⟨kv, km⟩ from HKS.out] at h; exact hi_ (by rw [HTk.out]; exact h)), HXW.out, HB6⟩
    case measure => have := HLT.out; simp [intOf]; omega
   ·
    have e : k = kl.length := by omega
    rw [e, List.take_length] at HOw
    have HBr := hi_ HB
    subst e
    clear HB
    go_upto_region 14 with fail
    have hp3 := fun u (h : Below W.heap.size W u) => (hp u h).1
    have hp4 := fun u (h : Below W.heap.size W u) => (hp u h).2
    refine wp_region_held_drew (S := (fun u => Below W.heap.size W u)) (by kernel_rfl) (below_step HBr.out (below_drew (Below.refl _ _))) (fun hHeld => ?_)
    refine wpAnyH_take (i := 0) (oi := { dst := some 55, op := Op.move (Operand.tmp 9), type := 86, pos := "optext.go:67", after := #[], guard := none }) (v := ?b1_v0) rfl (by kernel_rfl) (by kernel_rfl) (by kernel_rfl) (fun _ _ _ h => h) (Or.inl ⟨by rfl, ?b1_y0⟩) (by assumption) ?b1_r0
    case b1_y0 => (intro w hSw; (try dsimp only at hSw); go_simp; try (with_reducible rfl))
    try simp only [Act.put, sA, sZ, sS]
    refine wpAnyH_take (i := 1) (oi := { dst := some 56, op := Op.fieldAddr 39 (Operand.tmp 3) 3, type := 0, pos := "optext.go:67", after := #[], guard := none }) (v := ?b2_v1) rfl (by kernel_rfl) (by kernel_rfl) (by kernel_rfl) (fun _ _ _ h => h) (Or.inl ⟨by rfl, ?b2_y1⟩) (by assumption) ?b2_r1
    case b2_y1 => (intro w hSw; (try dsimp only at hSw); go_simp; try (with_reducible rfl))
    try simp only [Act.put, sA, sZ, sS]
    refine wpAnyH_take (i := 2) (oi := { dst := some 57, op := Op.fieldAddr 37 (Operand.tmp 56) 1, type := 0, pos := "optext.go:67", after := #[{ on := 1, ground := Ground.data }], guard := none }) (v := ?b3_v2) rfl (by kernel_rfl) (by kernel_rfl) (by kernel_rfl) (fun _ _ _ h => h) (Or.inl ⟨by rfl, ?b3_y2⟩) (by assumption) ?b3_r2
    case b3_y2 => (intro w hSw; (try dsimp only at hSw); go_simp; try (with_reducible rfl))
    try simp only [Act.put, sA, sZ, sS]
    refine wpAnyH_take (i := 3) (oi := { dst := some 58, op := Op.load 3 (Operand.tmp 57), type := 3, pos := "optext.go:67", after := #[{ on := 2, ground := Ground.data }], guard := none }) (v := ?b4_v3) rfl (by kernel_rfl) (by kernel_rfl) (by kernel_rfl) (fun _ _ _ h => h) (Or.inl ⟨by rfl, ?b4_y3⟩) (by assumption) ?b4_r3
    case b4_y3 => (intro w hSw; (try dsimp only at hSw); go_simp; try (with_reducible rfl))
    try simp only [Act.put, sA, sZ, sS]
    refine wpAnyH_take (i := 5) (oi := { dst := some 60, op := Op.load 31 (Operand.tmp 2), type := 31, pos := "optext.go:67", after := #[], guard := none }) (v := ?b5_v5) rfl (by kernel_rfl) (by kernel_rfl) (by kernel_rfl) (fun _ _ _ h => h) (Or.inl ⟨by rfl, ?b5_y5⟩) (by assumption) ?b5_r5
    case b5_y5 => (intro w hSw; (try dsimp only at hSw); go_simp; try (with_reducible rfl))
    try simp only [Act.put, sA, sZ, sS]
    refine wpAnyH_take (i := 6) (oi := { dst := some 61, op := Op.fieldAddr 39 (Operand.tmp 3) 3, type := 0, pos := "optext.go:67", after := #[], guard := none }) (v := ?b6_v6) rfl (by kernel_rfl) (by kernel_rfl) (by kernel_rfl) (fun _ _ _ h => h) (Or.inl ⟨by rfl, ?b6_y6⟩) (by assumption) ?b6_r6
    case b6_y6 => (intro w hSw; (try dsimp only at hSw); go_simp; try (with_reducible rfl))
    try simp only [Act.put, sA, sZ, sS]
    refine wpAnyH_take (i := 7) (oi := { dst := some 62, op := Op.fieldAddr 37 (Operand.tmp 61) 2, type := 0, pos := "optext.go:67", after := #[{ on := 6, ground := Ground.data }], guard := none }) (v := ?b7_v7) rfl (by kernel_rfl) (by kernel_rfl) (by kernel_rfl) (fun _ _ _ h => h) (Or.inl ⟨by rfl, ?b7_y7⟩) (by assumption) ?b7_r7
    case b7_y7 => (intro w hSw; (try dsimp only at hSw); go_simp; try (with_reducible rfl))
    try simp only [Act.put, sA, sZ, sS]
    refine wpAnyH_take (i := 8) (oi := { dst := some 63, op := Op.load 35 (Operand.tmp 62), type := 35, pos := "optext.go:67", after := #[{ on := 7, ground := Ground.data }], guard := none }) (v := ?b8_v8) rfl (by kernel_rfl) (by kernel_rfl) (by kernel_rfl) (fun _ _ _ h => h) (Or.inl ⟨by rfl, ?b8_y8⟩) (by assumption) ?b8_r8
    case b8_y8 => (intro w hSw; (try dsimp only at hSw); go_simp; try (with_reducible rfl))
    try simp only [Act.put, sA, sZ, sS]
    refine wpAnyH_ready (rs := [4]) (by kernel_rfl) (by simp) ?_
    refine AllReadyH.cons (o := { dst := some 59, op := Op.call { callee := Callee.value (Operand.func 45), args := #[Operand.tmp 58], argTypes := #[3] }, type := 9, pos := "optext.go:67", after := #[{ on := 3, ground := Ground.data }], guard := none }) rfl (fun K hK => ?_) (AllReadyH.nil)
    go_simp
    go_at_call 45
    refine (HFP.out _ (below_step HBr.out (below_drew (Below.refl _ _)))).mono ?_
    rintro e w3 ⟨rfl, hb3⟩
    have HX3 : Hid (Below wr.heap.size wr w3) := hi_ (below_step (below_drew (Below.refl _ _)) hb3)
    clear hb3
    have hNEW : Below W.heap.size W w3 := below_step HBr.out HX3.out
    refine hK.out _ _ hNEW (fun hHeld5 => ?_)
    clear hK K hNEW
    refine wpAnyH_ready (rs := [9]) (by kernel_rfl) (by simp) ?_
    refine AllReadyH.cons (o := { dst := some 64, op := Op.call { callee := Callee.value (Operand.func 47), args := #[Operand.tmp 60, Operand.tmp 63], argTypes := #[31, 35] }, type := 9, pos := "optext.go:67", after := #[{ on := 5, ground := Ground.data }, { on := 8, ground := Ground.data }, { on := 4, ground := Ground.chain }], guard := none }) rfl (fun K hK => ?_) (AllReadyH.nil)
    go_simp
    go_at_call 47
    refine (HC9.out _ (below_step HBr.out HX3.out)).mono ?_
    rintro e w4 ⟨rfl, hb4⟩
    have HX4 : Hid (Below wr.heap.size wr w4) := hi_ (below_step HX3.out hb4)
    clear hb4
    have hNEW : Below W.heap.size W w4 := below_step HBr.out HX4.out
    refine hK.out _ _ hNEW (fun hHeld6 => ?_)
    clear hK K hNEW
    refine wpAnyH_ready (rs := [10]) (by kernel_rfl) (by simp) ?_
    refine AllReadyH.cons (o := { dst := some 65, op := Op.buildSlice 86 4 #[(0, Operand.const (Value.string { data := #[112, 114, 105, 111, 114, 105, 116, 121] })), (1, Operand.tmp 59), (2, Operand.const (Value.string { data := #[45, 62] })), (3, Operand.tmp 64)], type := 86, pos := "optext.go:67", after := #[{ on := 4, ground := Ground.data }, { on := 9, ground := Ground.data }], guard := none }) rfl (fun K hK => ?_) (AllReadyH.nil)
    go_simp
    obtain ⟨U, hU⟩ : ∃ U, U = (w4.alloc (.cells #[.string ⟨#[112, 114, 105, 111, 114, 105, 116, 121]⟩, .string (idS pr), .string ⟨#[45, 62]⟩, .string CS] 9)) := ⟨_, rfl⟩
    have HXU : Hid (Below wr.heap.size wr U) := hi_ (below_step HX4.out (by rw [hU]; exact below1 _ _))
    have HNW : Hid (Blk U w4.heap.size 9 #[.string ⟨#[112, 114, 105, 111, 114, 105, 116, 121]⟩, .string (idS pr), .string ⟨#[45, 62]⟩, .string CS]) := hi_ (by rw [hU]; exact Blk.new _ _ _)
    have HOU := hi_ (ownsRow_below HOw.out HXU.out)
    have HBU : Hid (B ≤ U.heap.size) := hi_ (Nat.le_trans HBs.out HXU.out.size)
    have hNEW : Below W.heap.size W (w4.alloc (.cells #[.string ⟨#[112, 114, 105, 111, 114, 105, 116, 121]⟩, .string (idS pr), .string ⟨#[45, 62]⟩, .string CS] 9)) := by rw [← hU]; exact below_step HBr.out HXU.out
    refine hK.out _ _ hNEW (fun hHeld7 => ?_)
    clear hK K hNEW
    rw [← hU]
    clear hU
    refine wpAnyH_ready (rs := [11]) (by kernel_rfl) (by simp) ?_
    refine AllReadyH.cons (o := { dst := some 66, op := Op.call { callee := Callee.builtin Builtin.append, args := #[Operand.tmp 55, Operand.tmp 65], argTypes := #[86, 86] }, type := 86, pos := "optext.go:67", after := #[{ on := 0, ground := Ground.data }, { on := 10, ground := Ground.data }, { on := 9, ground := Ground.chain }], guard := none }) rfl (fun K hK => ?_) (AllReadyH.nil)
    rw [if_pos (by rfl)]
    refine opwp_append_O (.tmp 55) (.tmp 65) 86 rfl B 9 i0 _ 1 16 Tryz.underlying86 hi hz0 hz1 hz2 rfl (by decide) _ _ _ rfl HOU.out (cells := (fun s : ByteArray => [Value.string s])) ⟨[⟨#[112, 114, 105, 111, 114, 105, 116, 121]⟩, idS pr, ⟨#[45, 62]⟩, CS], some ⟨w4.heap.size, 0, none⟩, 4⟩ rfl (four_sL HNW.out) (fun h => by cases h) (fun _ => rfl) (fun s c hc => by simp only [List.mem_singleton] at hc; subst hc; rfl) ?j21 ?j22 ?j23 ?_
    case j21 => have := HKl.out; unfold maxLen; simp only [List.length_cons, List.length_nil]; omega
    case j22 => have := HKl.out; simp only [List.length_cons, List.length_nil]; omega
    case j23 => exact HBU.out
    intro v6 w6 hown6 hgr6
    have hBW : Below B U w6 := grown_below HOU.out hgr6 HBU.out
    have HXW : Hid (Below W.heap.size W w6) := hi_ ((below_step HBr.out HXU.out).trans (hBW.mono HWB.out))
    obtain ⟨A6, c6, rfl⟩ := row_sliceO hown6
    have HO6 := hi_ hown6
    have hNEW : Below W.heap.size W w6 := HXW.out
    refine hK.out _ _ hNEW (fun hHeld8 => ?_)
    clear hK K hNEW hown6 hgr6 hBW
    try simp only [Act.put, sA, sZ, sS]
    refine wpAnyH_take (i := 12) (oi := { dst := some 9, op := Op.assign (Operand.tmp 66), type := 86, pos := "optext.go:67", after := #[{ on := 11, ground := Ground.data }, { on := 11, ground := Ground.chain }, { on := 0, ground := Ground.phase }, { on := 1, ground := Ground.phase }, { on := 2, ground := Ground.phase }, { on := 3, ground := Ground.phase }, { on := 4, ground := Ground.phase }, { on := 5, ground := Ground.phase }, { on := 6, ground := Ground.phase }, { on := 7, ground := Ground.phase }, { on := 8, ground := Ground.phase }, { on := 9, ground := Ground.phase }, { on := 10, ground := Ground.phase }, { on := 11, ground := Ground.phase }], guard := none }) (v := ?b9_v12) rfl (by kernel_rfl) (by kernel_rfl) (by kernel_rfl) (fun _ _ _ h => h) (Or.inl ⟨by rfl, ?b9_y12⟩) (by assumption) ?b9_r12
    case b9_y12 => (intro w hSw; (try dsimp only at hSw); go_simp; try (with_reducible rfl))
    try simp only [Act.put, sA, sZ, sS]
    refine wpAnyH_done (by kernel_rfl) ?_ _
    have HJ := hi_ (join_words nm kl pr CS T w6 (B := B) (A := A6) (c := c6) HE.out HO6.out HKl.out hns hcs HPsz.out)
    clear HO6
    go_wp2_with fail
    refine HJ.out.mono ?_
    rintro e w7 ⟨rfl, hb7⟩
    have HB7 := hi_ (below_step HXW.out hb7)
    clear hb7
    go_wp2
    go_ret2
    exact ⟨rfl, below_step HW.out HB7.out⟩
 ·
  have HGC := hi_ (HG.out.call (.inl hk))
  have hcz := HCz2.out HGC.out
  have HE := hi_ (fun cs hc => HMS.out hk nm cs HNT.out hc)
  clear HMS HDS HFS HIS
  simp only at hk
  subst hk
  have HC9 := hi_ (fun u hb => HCC.out HGC.out u hb)
  obtain ⟨CS, hCS⟩ : ∃ s : ByteArray, s = ⟨(callT p ca cg.l).toArray⟩ := ⟨_, rfl⟩
  replace HE := hi_ (HE.out CS (by rw [hCS]))
  have hcs : CS.size ≤ 200 := by rw [hCS]; exact hcz
  rw [← hCS] at HC9
  clear hcz hCS
  have y0 : ¬ ((⟨#[109, 111, 100, 105, 102, 121, 32]⟩ : ByteArray).size + nm.size > 9223372036854775807) := by (try simp only [ByteArray.size_append]); have : (⟨#[32]⟩ : ByteArray).size = 1 := rfl; have : (⟨#[109, 111, 100, 105, 102, 121, 32]⟩ : ByteArray).size = 7 := rfl; have : (⟨#[32, 45, 62, 32]⟩ : ByteArray).size = 4 := rfl; omega
  have x0 : ¬ (7 + nm.size > 9223372036854775807) := by omega
  have y1 : ¬ (((⟨#[109, 111, 100, 105, 102, 121, 32]⟩ : ByteArray) ++ nm).size + ((⟨#[32]⟩ : ByteArray) ++ IDS).size > 9223372036854775807) := by (try simp only [ByteArray.size_append]); have : (⟨#[32]⟩ : ByteArray).size = 1 := rfl; have : (⟨#[109, 111, 100, 105, 102, 121, 32]⟩ : ByteArray).size = 7 := rfl; have : (⟨#[32, 45, 62, 32]⟩ : ByteArray).size = 4 := rfl; omega
  have x1 : ¬ (7 + nm.size + (1 + IDS.size) > 9223372036854775807) := by omega
  have y2 : ¬ ((((⟨#[109, 111, 100, 105, 102, 121, 32]⟩ : ByteArray) ++ nm) ++ ((⟨#[32]⟩ : ByteArray) ++ IDS)).size + (⟨#[32, 45, 62, 32]⟩ : ByteArray).size > 9223372036854775807) := by (try simp only [ByteArray.size_append]); have : (⟨#[32]⟩ : ByteArray).size = 1 := rfl; have : (⟨#[109, 111, 100, 105, 102, 121, 32]⟩ : ByteArray).size = 7 := rfl; have : (⟨#[32, 45, 62, 32]⟩ : ByteArray).size = 4 := rfl; omega
  have x2 : ¬ (7 + nm.size + (1 + IDS.size) + 4 > 9223372036854775807) := by omega
  have y3 : ¬ (((((⟨#[109, 111, 100, 105, 102, 121, 32]⟩ : ByteArray) ++ nm) ++ ((⟨#[32]⟩ : ByteArray) ++ IDS)) ++ (⟨#[32, 45, 62, 32]⟩ : ByteArray)).size + CS.size > 9223372036854775807) := by (try simp only [ByteArray.size_append]); have : (⟨#[32]⟩ : ByteArray).size = 1 := rfl; have : (⟨#[109, 111, 100, 105, 102, 121, 32]⟩ : ByteArray).size = 7 := rfl; have : (⟨#[32, 45, 62, 32]⟩ : ByteArray).size = 4 := rfl; omega
  have x3 : ¬ (7 + nm.size + (1 + IDS.size) + 4 + CS.size > 9223372036854775807) := by omega
  go_wp2_with fail
  refine (HC9.out _ (by first | exact HB | exact ba1 HB | exact ba2 HB | exact ba3 HB)).mono ?_
  rintro e w3 ⟨rfl, hbN⟩
  replace HB := below_step (by first | exact HB | exact ba1 HB | exact ba2 HB | exact ba3 HB) hbN
  clear hbN
  go_wp2
  go_ret2
  exact ⟨by rw [← HE.out]; rfl, below_step HW.out HB⟩
 ·
  have HE := hi_ (HDS.out hk nm HNT.out)
  clear HMS HDS HFS HIS
  simp only at hk
  subst hk
  have y0 : ¬ ((⟨#[100, 101, 108, 101, 116, 101, 32]⟩ : ByteArray).size + nm.size > 9223372036854775807) := by (try simp only [ByteArray.size_append]); have : (⟨#[32]⟩ : ByteArray).size = 1 := rfl; have : (⟨#[100, 101, 108, 101, 116, 101, 32]⟩ : ByteArray).size = 7 := rfl; omega
  have x0 : ¬ (7 + nm.size > 9223372036854775807) := by omega
  have y1 : ¬ (((⟨#[100, 101, 108, 101, 116, 101, 32]⟩ : ByteArray) ++ nm).size + ((⟨#[32]⟩ : ByteArray) ++ IDS).size > 9223372036854775807) := by (try simp only [ByteArray.size_append]); have : (⟨#[32]⟩ : ByteArray).size = 1 := rfl; have : (⟨#[100, 101, 108, 101, 116, 101, 32]⟩ : ByteArray).size = 7 := rfl; omega
  have x1 : ¬ (7 + nm.size + (1 + IDS.size) > 9223372036854775807) := by omega
  go_wp2
  go_ret2
  exact ⟨by rw [← HE.out]; rfl, below_step HW.out HB⟩
 ·
  have HGC := hi_ (HG.out.call (.inr hk))
  have hcz := HCz2.out HGC.out
  have HE := hi_ (fun cs hc => HFS.out hk nm cs HNT.out hc)
  clear HMS HDS HFS HIS
  simp only at hk
  subst hk
  have HC9 := hi_ (fun u hb => HCC.out HGC.out u hb)
  obtain ⟨CS, hCS⟩ : ∃ s : ByteArray, s = ⟨(callT p ca cg.l).toArray⟩ := ⟨_, rfl⟩
  replace HE := hi_ (HE.out CS (by rw [hCS]))
  have hcs : CS.size ≤ 200 := by rw [hCS]; exact hcz
  rw [← hCS] at HC9
  clear hcz hCS
  have y0 : ¬ ((⟨#[100, 101, 102, 97, 117, 108, 116, 32]⟩ : ByteArray).size + nm.size > 9223372036854775807) := by (try simp only [ByteArray.size_append]); have : (⟨#[100, 101, 102, 97, 117, 108, 116, 32]⟩ : ByteArray).size = 8 := rfl; have : (⟨#[32, 45, 62, 32]⟩ : ByteArray).size = 4 := rfl; omega
  have x0 : ¬ (8 + nm.size > 9223372036854775807) := by omega
  have y1 : ¬ (((⟨#[100, 101, 102, 97, 117, 108, 116, 32]⟩ : ByteArray) ++ nm).size + (⟨#[32, 45, 62, 32]⟩ : ByteArray).size > 9223372036854775807) := by (try simp only [ByteArray.size_append]); have : (⟨#[100, 101, 102, 97, 117, 108, 116, 32]⟩ : ByteArray).size = 8 := rfl; have : (⟨#[32, 45, 62, 32]⟩ : ByteArray).size = 4 := rfl; omega
  have x1 : ¬ (8 + nm.size + 4 > 9223372036854775807) := by omega
  have y2 : ¬ ((((⟨#[100, 101, 102, 97, 117, 108, 116, 32]⟩ : ByteArray) ++ nm) ++ (⟨#[32, 45, 62, 32]⟩ : ByteArray)).size + CS.size > 9223372036854775807) := by (try simp only [ByteArray.size_append]); have : (⟨#[100, 101, 102, 97, 117, 108, 116, 32]⟩ : ByteArray).size = 8 := rfl; have : (⟨#[32, 45, 62, 32]⟩ : ByteArray).size = 4 := rfl; omega
  have x2 : ¬ (8 + nm.size + 4 + CS.size > 9223372036854775807) := by omega
  go_wp2_with fail
  refine (HC9.out _ (by first | exact HB | exact ba1 HB | exact ba2 HB | exact ba3 HB)).mono ?_
  rintro e w3 ⟨rfl, hbN⟩
  replace HB := below_step (by first | exact HB | exact ba1 HB | exact ba2 HB | exact ba3 HB) hbN
  clear hbN
  go_wp2
  go_ret2
  exact ⟨by rw [← HE.out]; rfl, below_step HW.out HB⟩
def argsF : Bool → List Int → List UInt8
 | _, [] => []
 | true, v :: l => decI v ++ argsF false l
 | false, v :: l => [44, 32] ++ decI v ++ argsF false l
theorem argsF_nil (b : Bool) : argsF b [] = [] := by cases b <;> rfl
theorem argsF_tail : ∀ (l : List Int), Lib.joinTail [44, 32] (l.map decI) = argsF false l
 | [] => by simp [Lib.joinTail, argsF]
 | v :: l => by
  have h := argsF_tail l
  simp only [Lib.joinTail, List.map_cons, List.flatten_cons] at h ⊢
  rw [h, argsF]
theorem argsX_F (l : List Int) : argsX l = argsF true l := by
 cases l with
 | nil => simp [argsX, Lib.join_nil, argsF]
 | cons v l => rw [argsX, List.map_cons, Lib.join_cons, argsF_tail, argsF]
theorem rfmtU_any (v : Int) (hv : (Lit.int .u32 v).wf = true) (w : World) : Calls Tryz.prog 27 #[.int .u32 v] w fun e w' => e = .returned (.string (decS v)) ∧ Below w.heap.size w w' := by
 obtain ⟨n, rfl, hn⟩ := wf_u32 hv
 exact rfmtUint32_any n hn w
theorem rfmtI_any (n : Int) (hn : (Lit.int .i64 n).wf = true) (w : World) : Calls Tryz.prog 25 #[.int .i64 n] w fun e w' => e = .returned (.string (idS n)) ∧ Below w.heap.size w w' :=
 rfmtInt_any n (wf_i64 hn).1 (wf_i64 hn).2 w
theorem app_data (a b : ByteArray) : (a ++ b).data.toList = a.data.toList ++ b.data.toList := by simp
theorem bytes_of {s : ByteArray} {l : List UInt8} (h : s.data.toList = l) : s = ⟨l.toArray⟩ := by
 subst h; rfl
theorem ret_sO {a b : ByteArray} (h : a = b) : Ending.returned (.string a) = .returned (.string b) := by rw [h]
theorem rcallT_any (p : ProgD) (a : Int) (y : L Int) (w : World) (o : ProgOk w p) (h : GoodCall p a y.l) (hy : LOk w 1 ucell y) (hu : ∀ v ∈ y.l, (Lit.int .u32 v).wf = true) :
  Calls Tryz.prog 26 #[.agg (progCells p), .agg #[.int .i64 a, .slice y.A y.l.length y.c]] w fun e w' => e = .returned (.string ⟨(callT p a y.l).toArray⟩) ∧ Below w.heap.size w w' := by
 obtain ⟨j, rfl, hj, hl4, hnz⟩ := h
 obtain ⟨W, hW, hw, HB, hp⟩ := box2 w (progCells p) 31 #[.int .i64 j, .slice y.A y.l.length y.c] 35
 have HW := hi_ hw
 have HY := hi_ (hy.below hw (Nat.le_refl _))
 have HU := hi_ hu
 obtain ⟨g, of, hA, hq⟩ := ActD.atA (o.actions.below hw (Nat.le_refl _)) hj
 have hn1 : (j : Int) < (p.actions.l.length : Int) := by omega
 have HQ := hi_ (fun w' (h : Below W.heap.size W w') => (hq w' h).1)
 have HTT : Hid (callT p (j : Int) y.l = p.actions.l[j].name.data.toList ++ [40] ++ argsF true y.l ++ [41]) := hi_ (by rw [callT, nameA_at hj, argsX_F])
 clear o hw hy hu hq
 obtain ⟨yl, yA, yc⟩ := y
 simp only at HY HU hl4 hp HTT ⊢
 obtain ⟨nm, hnm⟩ : ∃ nm, nm = p.actions.l[j].name := ⟨_, rfl⟩
 rw [← hnm] at HQ hnz HTT
 simp only [progCells, hA] at hp hW ⊢
 generalize callT p (j : Int) yl = T at *
 obtain ⟨T0, hT0⟩ : ∃ T0, T0 = nm.data.toList ++ [40] ++ argsF true yl := ⟨_, rfl⟩
 rw [← hT0] at HTT
 have HT0 := hi_ hT0
 clear hA hnm hT0
 have z1 : ¬ (nm.size + 1 > 9223372036854775807) := by omega
 go_enter Tryz.func26, Tryz.ntmps26
 go_upto_region 1 with fail
 rw [← hW]
 clear hW
 have hp3 := (hp W HB).1
 have hp4 := (hp W HB).2
 have hq3 := HQ.out _ HB
 go_wp2
 have HB0 := hi_ HB
 clear hp3 hp4 hq3 HB
 go_loopw [5, 6] (fun sv iv wr => ∃ (k : Nat) (c : ByteArray), k ≤ yl.length ∧ iv = .int .i64 k ∧ sv = .string c ∧ Hid (c.data.toList ++ argsF (decide (k = 0)) (yl.drop k) = T0) ∧ Hid (c.size ≤ 100 + 30 * k) ∧ Below W.heap.size W wr)
  (fun _ i _ => yl.length - (intOf i).toNat)
 case atStart => exact ⟨0, _, Nat.zero_le _, rfl, rfl, hi_ (by rw [HT0.out]; simp), hi_ (by rw [ByteArray.size_append]; have : (⟨#[40]⟩ : ByteArray).size = 1 := rfl; omega), HB0.out⟩
 case round =>
  obtain ⟨k, c, hk, rfl, rfl, HC, HZ, HB⟩ := hrel
  have hp4 := (hp wr HB).2
  by_cases hlt : k < yl.length
  ·
   obtain ⟨g2, of2, hA2, hd⟩ := ucell_atA HY.out hlt
   have hd0 := hd wr HB
   have HF := hi_ (fun u => rfmtU_any yl[k] (HU.out _ (List.getElem_mem hlt)) u)
   have HC2 : Hid (c.data.toList ++ argsF (decide (k = 0)) (yl[k] :: yl.drop (k + 1)) = T0) := hi_ (by rw [← List.drop_eq_getElem_cons hlt]; exact HC.out)
   have hsz := decS_size yl[k]
   simp only at hA2 hd0
   subst hA2
   clear HC hd
   generalize yl[k] = v at *
   have HDS : Hid ((decS v).data.toList = decI v) := hi_ rfl
   generalize decS v = sv at *
   have hcz := HZ.out
   have HB1 := hi_ HB
   clear HB
   by_cases hk0 : k = 0
   ·
    subst hk0
    rw [Nat.add_zero] at hd0
    have y1 : ¬ (c.size + sv.size > 9223372036854775807) := by omega
    go_wp2_with fail
    refine (HF.out _).mono ?_
    rintro e w1 ⟨rfl, hb1⟩
    have HB2 := hi_ (below_step HB1.out hb1)
    clear hb1 hp4 hd0
    go_wp2
    go_roundw
    case rel => exact ⟨1, _, hlt, by go_num, rfl, hi_ (by rw [app_data, HDS.out, List.append_assoc, ← HC2.out]; rfl), hi_ (by rw [ByteArray.size_append]; omega), HB2.out⟩
    case measure => simp [intOf] <;> omega
   ·
    have e0 : decide ((0 : Int) < (k : Int)) = true := decide_eq_true (by omega)
    have e1 : 0 < k := by omega
    have e2 : decide (0 < k) = true := decide_eq_true e1
    have y1 : ¬ (c.size + 2 > 9223372036854775807) := by omega
    have y2 : ¬ (c.size + 2 + sv.size > 9223372036854775807) := by omega
    have HC3 : Hid (c.data.toList ++ ([44, 32] ++ decI v ++ argsF false (yl.drop (k + 1))) = T0) := hi_ (by rw [← HC2.out, decide_eq_false hk0, argsF])
    clear HC2 hk0
    go_wp2_with fail
    refine (HF.out _).mono ?_
    rintro e w1 ⟨rfl, hb1⟩
    have HB2 := hi_ (below_step HB1.out hb1)
    clear hb1 hp4 hd0
    go_wp2
    go_roundw
    case rel => exact ⟨k + 1, _, hlt, by go_num, rfl, hi_ (by rw [app_data, app_data, HDS.out, decide_eq_false (by omega), ← HC3.out]; simp), hi_ (by rw [ByteArray.size_append, ByteArray.size_append]; have : (⟨#[44, 32]⟩ : ByteArray).size = 2 := rfl; omega), HB2.out⟩
    case measure => simp [intOf] <;> omega
  ·
   have e : k = yl.length := by omega
   have HC2 : Hid (c.data.toList = T0) := hi_ (by have := HC.out; rw [e, List.drop_length, argsF_nil, List.append_nil] at this; exact this)
   have hcz := HZ.out
   have y1 : ¬ (c.size + 1 > 9223372036854775807) := by omega
   have HB1 := hi_ HB
   clear HC HB e
   go_wp2
   go_ret
   exact ⟨ret_sO (bytes_of (by rw [app_data, HC2.out, HTT.out])), below_step HW.out HB1.out⟩
theorem rocheck_any (p : ProgD) (x : OpD) (w : World) (o : ProgOk w p) (hck : checkM p = none) (hc : ∀ t ∈ p.tables.l, ∀ v ∈ t.args.l, (Lit.int .u32 v).wf = true) (hx : OpOk w x) (hf : OpFine x.bare) (hk : 1 ≤ x.kind ∧ x.kind ≤ 4) (ht : 0 ≤ x.table) (ht2 : x.table.toNat < p.tables.l.length) :
  Calls Tryz.prog 24 #[.agg (progCells p), .agg (opCells x)] w fun e w' => e = .returned (.int .i64 (opChk p x.bare)) ∧ Below w.heap.size w w' := by
 obtain ⟨W, hW, hw, HB, hp⟩ := box2 w (progCells p) 31 (opCells x) 39
 have HW := hi_ hw
 have HR := hi_ (opChk.eq_1 p x.bare)
 have HEc := hi_ (fun i (hi : i < p.tables.l.length) u (hb : Below W.heap.size W u) => rentCheck_any p i hi x.keys x.prio x.ea x.eargs u (o.below (below_step hw hb)) hc (tab_fine hck hi) (hx.keys.below (below_step hw hb) (Nat.le_refl _)) hf.keys (hx.eargs.below (below_step hw hb) (Nat.le_refl _)) hf.eargs)
 have HAc := hi_ (fun i (hi : i < p.tables.l.length) u (hb : Below W.heap.size W u) => rallows_any p i hi x.ca u (o.below (below_step hw hb)) hc (tab_fine hck hi))
 have HCc := hi_ (fun u (hb : Below W.heap.size W u) => rcheckCall_any p x.ca x.cargs u (o.below (below_step hw hb)) (hx.cargs.below (below_step hw hb) (Nat.le_refl _)) hf.cargs)
 generalize opChk p x.bare = R at *
 clear o hw hck hc hx hf
 obtain ⟨kd, tb, id, ks, pr, ea, eg, ca, cg⟩ := x
 simp only at hk ht ht2
 obtain ⟨i, rfl⟩ : ∃ i : Nat, tb = i := ⟨tb.toNat, by omega⟩
 rw [Int.toNat_natCast] at ht2
 have HM := hi_ (mayM.eq_1 p p.tables.l[i] ca cg.l)
 have HE1 := hi_ (HEc.out i ht2)
 have HA1 := hi_ (HAc.out i ht2)
 simp only [OpD.bare] at HR HE1 HA1 HCc
 unfold entCells at HE1
 replace HR := tr_ HR (if_neg (by omega))
 replace HR := tr_ HR (if_neg (by omega))
 rw [Int.toNat_natCast, List.getElem?_eq_getElem ht2] at HR
 simp only at HR
 clear HEc HAc
 generalize entM p p.tables.l[i] ks.l pr ea eg.l = ez at *
 generalize mayM p p.tables.l[i] ca cg.l = mz at *
 by_cases h1 : kd = 1
 ·
  replace HR := tr_ HR (if_pos h1)
  subst h1
  clear hk
  go_enter Tryz.func24, Tryz.ntmps24
  go_upto_region 1 with fail
  rw [← hW]
  clear hW
  have hp3 := (hp W HB).1
  have hp4 := (hp W HB).2
  go_wp2_with fail
  refine (HE1.out _ (by first | exact HB | exact ba1 HB | exact ba2 HB | exact ba3 HB)).mono ?_
  rintro e w1 ⟨rfl, hbN⟩
  replace HB := below_step (by first | exact HB | exact ba1 HB | exact ba2 HB | exact ba3 HB) hbN
  clear hbN
  go_wp2
  go_ret
  exact ⟨ret_iO HR.out, below_step HW.out HB⟩
 replace HR := tr_ HR (if_neg h1)
 have q1 : (kd == 1) = false := bf_ h1
 by_cases h4 : kd = 4
 ·
  replace HR := tr_ HR (if_neg (fun h => h.1 h4))
  subst h4
  replace HR := tr_ HR (if_neg (by decide))
  clear hk h1 q1
  by_cases hm : ca ∈ p.tables.l[i].acts.l
  ·
   rw [decide_eq_true hm] at HA1
   replace HR := hi_ (HR.out.trans (HM.out.trans (if_pos hm)))
   clear hm HM
   generalize callM p ca cg.l = cm at *
   go_enter Tryz.func24, Tryz.ntmps24
   go_upto_region 1 with fail
   rw [← hW]
   clear hW
   have hp3 := (hp W HB).1
   have hp4 := (hp W HB).2
   go_wp2_with fail
   refine (HA1.out _ (by first | exact HB | exact ba1 HB | exact ba2 HB | exact ba3 HB)).mono ?_
   rintro e w1 ⟨rfl, hbN⟩
   replace HB := below_step (by first | exact HB | exact ba1 HB | exact ba2 HB | exact ba3 HB) hbN
   clear hbN
   clear hp3 hp4
   have hp3 := (hp _ HB).1
   have hp4 := (hp _ HB).2
   go_wp2_with fail
   refine (HCc.out _ (by first | exact HB | exact ba1 HB | exact ba2 HB | exact ba3 HB)).mono ?_
   rintro e w2 ⟨rfl, hbN⟩
   replace HB := below_step (by first | exact HB | exact ba1 HB | exact ba2 HB | exact ba3 HB) hbN
   clear hbN
   go_wp2
   go_ret
   exact ⟨ret_iO HR.out, below_step HW.out HB⟩
  ·
   rw [decide_eq_false hm] at HA1
   replace HR := hi_ (HR.out.trans (HM.out.trans (if_neg hm)))
   clear hm HM
   go_enter Tryz.func24, Tryz.ntmps24
   go_upto_region 1 with fail
   rw [← hW]
   clear hW
   have hp3 := (hp W HB).1
   have hp4 := (hp W HB).2
   go_wp2_with fail
   refine (HA1.out _ (by first | exact HB | exact ba1 HB | exact ba2 HB | exact ba3 HB)).mono ?_
   rintro e w1 ⟨rfl, hbN⟩
   replace HB := below_step (by first | exact HB | exact ba1 HB | exact ba2 HB | exact ba3 HB) hbN
   clear hbN
   go_wp2
   go_ret
   exact ⟨ret_iO HR.out, below_step HW.out HB⟩
 have q4 : (kd != 4) = true := bne_iff_ne.2 h4
 by_cases hi1 : id < 1
 ·
  replace HR := hi_ (HR.out.trans (if_pos ⟨h4, .inl hi1⟩))
  have e1 : decide (id < 1) = true := decide_eq_true hi1
  go_enter Tryz.func24, Tryz.ntmps24
  go_upto_region 1 with fail
  rw [← hW]
  clear hW
  have hp3 := (hp W HB).1
  have hp4 := (hp W HB).2
  go_wp2
  go_ret
  exact ⟨ret_iO HR.out, below_step HW.out HB⟩
 have e1 : decide (id < 1) = false := decide_eq_false hi1
 by_cases hi2 : 1073741824 < id
 ·
  replace HR := hi_ (HR.out.trans (if_pos ⟨h4, .inr hi2⟩))
  have e2 : decide (1073741824 < id) = true := decide_eq_true hi2
  go_enter Tryz.func24, Tryz.ntmps24
  go_upto_region 1 with fail
  rw [← hW]
  clear hW
  have hp3 := (hp W HB).1
  have hp4 := (hp W HB).2
  go_wp2
  go_ret
  exact ⟨ret_iO HR.out, below_step HW.out HB⟩
 have e2 : decide (1073741824 < id) = false := decide_eq_false hi2
 replace HR := tr_ HR (if_neg (by rintro ⟨_, h | h⟩; exact hi1 h; exact hi2 h))
 by_cases h3 : kd = 3
 ·
  replace HR := tr_ HR (if_pos h3)
  subst h3
  clear hk h1 h4 q1 q4
  go_enter Tryz.func24, Tryz.ntmps24
  go_upto_region 1 with fail
  rw [← hW]
  clear hW
  have hp3 := (hp W HB).1
  have hp4 := (hp W HB).2
  go_wp2
  go_ret
  exact ⟨ret_iO HR.out, below_step HW.out HB⟩
 replace HR := tr_ HR (if_neg h3)
 have q3 : (kd == 3) = false := bf_ h3
 clear h1 h3 h4 hi1 hi2 hk
 by_cases hm : ca ∈ p.tables.l[i].acts.l
 ·
  rw [decide_eq_true hm] at HA1
  replace HR := hi_ (HR.out.trans (HM.out.trans (if_pos hm)))
  clear hm HM
  generalize callM p ca cg.l = cm at *
  go_enter Tryz.func24, Tryz.ntmps24
  go_upto_region 1 with fail
  rw [← hW]
  clear hW
  have hp3 := (hp W HB).1
  have hp4 := (hp W HB).2
  go_wp2_with fail
  refine (HA1.out _ (by first | exact HB | exact ba1 HB | exact ba2 HB | exact ba3 HB)).mono ?_
  rintro e w1 ⟨rfl, hbN⟩
  replace HB := below_step (by first | exact HB | exact ba1 HB | exact ba2 HB | exact ba3 HB) hbN
  clear hbN
  clear hp3 hp4
  have hp3 := (hp _ HB).1
  have hp4 := (hp _ HB).2
  go_wp2_with fail
  refine (HCc.out _ (by first | exact HB | exact ba1 HB | exact ba2 HB | exact ba3 HB)).mono ?_
  rintro e w2 ⟨rfl, hbN⟩
  replace HB := below_step (by first | exact HB | exact ba1 HB | exact ba2 HB | exact ba3 HB) hbN
  clear hbN
  go_wp2
  go_ret
  exact ⟨ret_iO HR.out, below_step HW.out HB⟩
 ·
  rw [decide_eq_false hm] at HA1
  replace HR := hi_ (HR.out.trans (HM.out.trans (if_neg hm)))
  clear hm HM
  go_enter Tryz.func24, Tryz.ntmps24
  go_upto_region 1 with fail
  rw [← hW]
  clear hW
  have hp3 := (hp W HB).1
  have hp4 := (hp W HB).2
  go_wp2_with fail
  refine (HA1.out _ (by first | exact HB | exact ba1 HB | exact ba2 HB | exact ba3 HB)).mono ?_
  rintro e w1 ⟨rfl, hbN⟩
  replace HB := below_step (by first | exact HB | exact ba1 HB | exact ba2 HB | exact ba3 HB) hbN
  clear hbN
  go_wp2
  go_ret
  exact ⟨ret_iO HR.out, below_step HW.out HB⟩
section
open Go.RowKit Go.Maps
theorem op_name (r : OR) (gB : Nat) : NamesF 131 (r.p.tables.l.map TabD.name) r gB := by
 intro u e i hi hR hB hP
 have hi' : i < r.p.tables.l.length := by simpa using hi
 obtain ⟨g, of, hA, hall⟩ := TabD.atA hP.tables hi'
 obtain ⟨d0, d1, d2, d3, d4, d5⟩ := hall u (Below.refl _ _)
 have c4 : u.cell? ⟨r.gR, 5, none⟩ = some (.slice r.p.tables.A r.p.tables.l.length r.p.tables.c) := hR.cell 5
 have cB : u.cell? ⟨gB, 0, none⟩ = some (.pointer (some ⟨r.gR, 0, none⟩)) := hB.cell 0
 have HN := hi_ (show (r.p.tables.l.map TabD.name)[i] = r.p.tables.l[i].name from List.getElem_map _)
 have hlt : (i : Int) < (r.p.tables.l.length : Int) := by omega
 rw [hA] at c4
 rw [HN.out]
 generalize r.p.tables.l[i] = y at *
 obtain ⟨nm, kl, al, td, tg, ts⟩ := y
 simp only at d0 ⊢
 clear hall hR hB hP hA d1 d2 d3 d4 d5 HN
 go_enter Tryz.func131, Tryz.ntmps131
 go_wp2
 go_ret
 exact ⟨rfl, rfl⟩
def kindsD : DataW Unit := ((((DataW.map []).put (.string wIns) (.lit (.int .i64 1))).put (.string wMod) (.lit (.int .i64 2))).put (.string wDel) (.lit (.int .i64 3))).put (.string wDef) (.lit (.int .i64 4))
theorem lit_ne {a b : List UInt8} (h : a ≠ b) : (Lit.string a) ≠ .string b := fun e => h (by injection e)
theorem kinds_at (l : List UInt8) : kindsD.atKey (.string l) (.lit (.int .i64 0)) = .lit (.int .i64 (kindW l)) ∧ Maps.has kindsD (.string l) = decide (kindW l ≠ 0) := by
 by_cases h1 : l = wIns
 · subst h1; exact ⟨by kernel_rfl, by kernel_rfl⟩
 by_cases h2 : l = wMod
 · subst h2; exact ⟨by kernel_rfl, by kernel_rfl⟩
 by_cases h3 : l = wDel
 · subst h3; exact ⟨by kernel_rfl, by kernel_rfl⟩
 by_cases h4 : l = wDef
 · subst h4; exact ⟨by kernel_rfl, by kernel_rfl⟩
 have hk : kindW l = 0 := by rw [kindW, if_neg h1, if_neg h2, if_neg h3, if_neg h4]
 rw [hk]
 unfold kindsD
 constructor
 · rw [atKey_put_other (lit_ne h4), atKey_put_other (lit_ne h3), atKey_put_other (lit_ne h2), atKey_put_other (lit_ne h1)]; rfl
 · rw [Maps.has_put_other (lit_ne h4), Maps.has_put_other (lit_ne h3), Maps.has_put_other (lit_ne h2), Maps.has_put_other (lit_ne h1)]; rfl
theorem wpList_insert_O {P : Program} (w : World) {ops : Array Oper} {rest : List Oper} {o : Oper} {a : Act} {Q : Exit → Act → World → Prop}
  (hg : o.guard = none) (m x v : Operand) (t : TypeId) (hop : o.op = Op.insert t m x v)
  (k e : TypeId) (K : Keyed P k) (ht : P.underlying t = some (.map k e)) (R : Value → Option (DataW Unit × List MemPlace)) (b n : Nat) (D : DataW Unit)
  (hm : a.eval m = .map (some b)) (hown : w.ownsMap P k R b n D) (hn : n < maxLen) (key val : Value) (kl : Lit) (hx : a.eval x = key) (hv : a.eval v = val) (hkey : keyOf P k key = some kl)
  (d : DataW Unit) (ps : List MemPlace) (hval : R val = some (d, ps))
  (hK : ∀ w', w'.ownsMap P k R b (n + 1) (D.put kl d) → w.grownBy w' (some b) → wpList P ops Q rest (a.put o.dst undef) w') :
  wpList P ops Q (o :: rest) a w := by
 refine wpList_plain hg fun K' hK' => ?_
 obtain ⟨w', hrun, r1, r2⟩ := hown.update K ht hn hkey hval
 unfold Oper.wp
 simp [execOp, hop, hm, hx, hv, hrun, Result.andThen]
 exact hK' _ _ (hK w' r1 r2)
theorem kindW_five (l : List UInt8) : kindW l = 0 ∨ kindW l = 1 ∨ kindW l = 2 ∨ kindW l = 3 ∨ kindW l = 4 := by
 unfold kindW
 split
 · simp
 split
 · simp
 split
 · simp
 split <;> simp
def Abv (B : Nat) (A : Option Addr) : Prop := ∀ ad, A = some ad → B ≤ ad.block
theorem Abv.nil (B : Nat) : Abv B none := fun _ h => by cases h
theorem LOk.farO {w : World} {k : Nat} {α : Type} {cells : α → List Value} {x : L α} (h : LOk w k cells x) {b j : Nat} {v : Value} (hA : ∀ ad, x.A = some ad → ad.block ≠ b) : LOk (w.setCell ⟨b, j, none⟩ v) k cells x := by
 refine ⟨h.1, ?_⟩
 rcases h.2 with h0 | ⟨g, o, e, hl, hc⟩
 · exact .inl h0
 ·
  have n1 := hA _ e
  refine .inr ⟨g, o, e, by simpa [World.setCell] using hl, fun i hi jj hj => ?_⟩
  rw [World.cell?_of_block (show (w.setCell ⟨b, j, none⟩ v).heap[(⟨g, o + i * k + jj, none⟩ : Addr).block]? = w.heap[(⟨g, o + i * k + jj, none⟩ : Addr).block]? from Below.heap_setCell w _ v g n1)]
  exact hc i hi jj hj
theorem put9O {w : World} {k : Nat} {ty : TypeId} {a0 a1 a2 a3 a4 a5 a6 a7 a8 : Value} (h : Blk w k ty #[a0, a1, a2, a3, a4, a5, a6, a7, a8]) (x0 x1 x2 x3 x4 x5 x6 x7 x8 : Value) :
  Blk (((((((((w.setCell ⟨k, 0, none⟩ (x0)).setCell ⟨k, 1, none⟩ (x1)).setCell ⟨k, 2, none⟩ (x2)).setCell ⟨k, 3, none⟩ (x3)).setCell ⟨k, 4, none⟩ (x4)).setCell ⟨k, 5, none⟩ (x5)).setCell ⟨k, 6, none⟩ (x6)).setCell ⟨k, 7, none⟩ (x7)).setCell ⟨k, 8, none⟩ (x8)) k ty #[x0, x1, x2, x3, x4, x5, x6, x7, x8] := by
 have h0 : Blk (w.setCell ⟨k, 0, none⟩ x0) k ty #[x0, a1, a2, a3, a4, a5, a6, a7, a8] := h.set_ 0 x0
 have h1 : Blk ((w.setCell ⟨k, 0, none⟩ x0).setCell ⟨k, 1, none⟩ x1) k ty #[x0, x1, a2, a3, a4, a5, a6, a7, a8] := h0.set_ 1 x1
 have h2 : Blk (((w.setCell ⟨k, 0, none⟩ x0).setCell ⟨k, 1, none⟩ x1).setCell ⟨k, 2, none⟩ x2) k ty #[x0, x1, x2, a3, a4, a5, a6, a7, a8] := h1.set_ 2 x2
 have h3 : Blk ((((w.setCell ⟨k, 0, none⟩ x0).setCell ⟨k, 1, none⟩ x1).setCell ⟨k, 2, none⟩ x2).setCell ⟨k, 3, none⟩ x3) k ty #[x0, x1, x2, x3, a4, a5, a6, a7, a8] := h2.set_ 3 x3
 have h4 : Blk (((((w.setCell ⟨k, 0, none⟩ x0).setCell ⟨k, 1, none⟩ x1).setCell ⟨k, 2, none⟩ x2).setCell ⟨k, 3, none⟩ x3).setCell ⟨k, 4, none⟩ x4) k ty #[x0, x1, x2, x3, x4, a5, a6, a7, a8] := h3.set_ 4 x4
 have h5 : Blk ((((((w.setCell ⟨k, 0, none⟩ x0).setCell ⟨k, 1, none⟩ x1).setCell ⟨k, 2, none⟩ x2).setCell ⟨k, 3, none⟩ x3).setCell ⟨k, 4, none⟩ x4).setCell ⟨k, 5, none⟩ x5) k ty #[x0, x1, x2, x3, x4, x5, a6, a7, a8] := h4.set_ 5 x5
 have h6 : Blk (((((((w.setCell ⟨k, 0, none⟩ x0).setCell ⟨k, 1, none⟩ x1).setCell ⟨k, 2, none⟩ x2).setCell ⟨k, 3, none⟩ x3).setCell ⟨k, 4, none⟩ x4).setCell ⟨k, 5, none⟩ x5).setCell ⟨k, 6, none⟩ x6) k ty #[x0, x1, x2, x3, x4, x5, x6, a7, a8] := h5.set_ 6 x6
 have h7 : Blk ((((((((w.setCell ⟨k, 0, none⟩ x0).setCell ⟨k, 1, none⟩ x1).setCell ⟨k, 2, none⟩ x2).setCell ⟨k, 3, none⟩ x3).setCell ⟨k, 4, none⟩ x4).setCell ⟨k, 5, none⟩ x5).setCell ⟨k, 6, none⟩ x6).setCell ⟨k, 7, none⟩ x7) k ty #[x0, x1, x2, x3, x4, x5, x6, x7, a8] := h6.set_ 7 x7
 exact h7.set_ 8 x8
theorem keys_lok {w : World} {b : Nat} {l : List KmD} {A : Option Addr} {c : Nat} (h : w.ownsRow b 68 2 (.slice A l.length c) l.length (l.flatMap KmD.cells)) {B : Nat} (hB : B ≤ b) : LOk w 2 KmD.cells ⟨l, A, c⟩ ∧ Abv B A := by
 obtain ⟨A', c', e3, _, h2, _, h4⟩ := own_list (cells := KmD.cells) (fun _ => rfl) h
 rw [Value.slice.injEq] at e3
 obtain ⟨rfl, _, rfl⟩ := e3
 exact ⟨h2, fun ad e => Nat.le_trans hB (h4 ad e).1⟩
structure OpLies (w : World) (o : OpD) (B : Nat) : Prop where
 ok : OpOk w o
 k : Abv B o.keys.A
 e : Abv B o.eargs.A
 c : Abv B o.cargs.A
theorem OpLies.mono {w : World} {o : OpD} {B B' : Nat} (h : OpLies w o B) (hb : B' ≤ B) : OpLies w o B' := ⟨h.ok, fun ad e => Nat.le_trans hb (h.k ad e), fun ad e => Nat.le_trans hb (h.e ad e), fun ad e => Nat.le_trans hb (h.c ad e)⟩
def OperEnd (W w : World) (r : OR) (R : OpP × PS) (e : Ending) (w' : World) : Prop := ∃ o : OpD, e = .returned (.agg (opCells o)) ∧ o.bare = R.1 ∧ OpLies w' o w.heap.size ∧ OSt W w w' r R.2
theorem OpLies.set {w : World} {o : OpD} {B : Nat} (h : OpLies w o B) {b j : Nat} {v : Value} (hb : b < B) : OpLies (w.setCell ⟨b, j, none⟩ v) o B :=
 ⟨⟨h.ok.keys.farO fun ad e => by have := h.k ad e; omega, h.ok.eargs.farO fun ad e => by have := h.e ad e; omega, h.ok.cargs.farO fun ad e => by have := h.c ad e; omega⟩, h.k, h.e, h.c⟩
theorem OpLies.below {w w' : World} {o : OpD} {B : Nat} (h : OpLies w o B) (hb : Below w.heap.size w w') : OpLies w' o B := ⟨h.ok.below hb, h.k, h.e, h.c⟩
def zeroO : OpD := ⟨0, 0, 0, ⟨[], none, 0⟩, 0, 0, ⟨[], none, 0⟩, 0, ⟨[], none, 0⟩⟩
theorem nilLO {α : Type} (w : World) (k : Nat) (cells : α → List Value) : LOk w k cells ⟨[], none, 0⟩ := ⟨Nat.zero_le _, .inl rfl⟩
theorem zero_lies (w : World) (B : Nat) : OpLies w zeroO B := ⟨⟨nilLO _ _ _, nilLO _ _ _, nilLO _ _ _⟩, Abv.nil _, Abv.nil _, Abv.nil _⟩
theorem oper_end {W w wx : World} {r : OR} {R : OpP × PS} {o : OpD} {s : PS} {B : Nat} (hR : R = (o.bare, s)) (hS : OSt W w wx r s) (hL : OpLies wx o B) (hB : w.heap.size + 1 < B) (hW : W.heap.size ≤ w.heap.size + 1)
  (hn : w.heap.size + 1 ≠ r.gR ∧ w.heap.size + 1 ≠ r.gA ∧ w.heap.size + 1 ≠ r.gL) (x0 x1 x2 x3 x4 x5 x6 x7 x8 : Value) :
  OperEnd W w r R (.returned (.agg (opCells o))) (((((((((wx.setCell ⟨w.heap.size + 1, 0, none⟩ (x0)).setCell ⟨w.heap.size + 1, 1, none⟩ (x1)).setCell ⟨w.heap.size + 1, 2, none⟩ (x2)).setCell ⟨w.heap.size + 1, 3, none⟩ (x3)).setCell ⟨w.heap.size + 1, 4, none⟩ (x4)).setCell ⟨w.heap.size + 1, 5, none⟩ (x5)).setCell ⟨w.heap.size + 1, 6, none⟩ (x6)).setCell ⟨w.heap.size + 1, 7, none⟩ (x7)).setCell ⟨w.heap.size + 1, 8, none⟩ (x8)) := by
 subst hR
 refine ⟨o, rfl, rfl, (((((((((hL.set hB).set hB).set hB).set hB).set hB).set hB).set hB).set hB).set hB).mono (by omega), ?_⟩
 have q := fun {u : World} (h : OSt W w u r s) (j : Nat) (v : Value) => h.set (Nat.le_succ w.heap.size) hW hn.1 hn.2.1 hn.2.2 j v
 exact q (q (q (q (q (q (q (q (q hS 0 x0) 1 x1) 2 x2) 3 x3) 4 x4) 5 x5) 6 x6) 7 x7) 8 x8
theorem far9 {w : World} {k ga : Nat} {ty : TypeId} {cs : Array Value} (h : Blk w ga ty cs) (hne : ga ≠ k) (x0 x1 x2 x3 x4 x5 x6 x7 x8 : Value) : Blk (((((((((w.setCell ⟨k, 0, none⟩ (x0)).setCell ⟨k, 1, none⟩ (x1)).setCell ⟨k, 2, none⟩ (x2)).setCell ⟨k, 3, none⟩ (x3)).setCell ⟨k, 4, none⟩ (x4)).setCell ⟨k, 5, none⟩ (x5)).setCell ⟨k, 6, none⟩ (x6)).setCell ⟨k, 7, none⟩ (x7)).setCell ⟨k, 8, none⟩ (x8)) ga ty cs :=
 (((((((((h.far hne _).far hne _).far hne _).far hne _).far hne _).far hne _).far hne _).far hne _).far hne _)
theorem set9 {W w0 w : World} {r : OR} {s : PS} {k : Nat} (h : OSt W w0 w r s) (hk : w0.heap.size ≤ k) (hW : W.heap.size ≤ k) (hn : k ≠ r.gR ∧ k ≠ r.gA ∧ k ≠ r.gL) (x0 x1 x2 x3 x4 x5 x6 x7 x8 : Value) : OSt W w0 (((((((((w.setCell ⟨k, 0, none⟩ (x0)).setCell ⟨k, 1, none⟩ (x1)).setCell ⟨k, 2, none⟩ (x2)).setCell ⟨k, 3, none⟩ (x3)).setCell ⟨k, 4, none⟩ (x4)).setCell ⟨k, 5, none⟩ (x5)).setCell ⟨k, 6, none⟩ (x6)).setCell ⟨k, 7, none⟩ (x7)).setCell ⟨k, 8, none⟩ (x8)) r s := by
 have q := fun {u : World} (h : OSt W w0 u r s) (j : Nat) (v : Value) => h.set hk hW hn.1 hn.2.1 hn.2.2 j v
 exact q (q (q (q (q (q (q (q (q h 0 x0) 1 x1) 2 x2) 3 x3) 4 x4) 5 x5) 6 x6) 7 x7) 8 x8
def TabSt (b0 : Nat) (r : OR) (u : World) : Prop := u.cell? ⟨b0, 0, none⟩ = some (pR r) ∧ u.cell? ⟨r.gR, 5, none⟩ = some (.slice r.p.tables.A r.p.tables.l.length r.p.tables.c)
theorem tabSt_of {W w0 u : World} {r : OR} {s : PS} {b0 : Nat} (h : OSt W w0 u r s) (hb : Blk u b0 120 #[pR r]) : TabSt b0 r u := by
 obtain ⟨a, e, h1, _⟩ := h.ex
 exact ⟨hb.cell 0, h1.cell 5⟩
theorem ooper {W w : World} {r : OR} (E : OEnv W r) (h : OSt W w w r (.ok 0)) (hna : r.p.actions.l.length ≤ 1000) (hnt : r.p.tables.l.length ≤ 1000) (htx : ∀ t ∈ r.x.l, t.text.length ≤ 16384) :
  Calls Tryz.prog 62 #[.pointer (some ⟨r.gR, 0, none⟩)] w (OperEnd W w r ((opA r.p r.x.l).1, endA r.x.l (opA r.p r.x.l).2)) := by
 have HE := hi_ E
 have HLT := hi_ h.lt
 have HBW := hi_ h.base.size
 have HNM := hi_ (And.intro hna hnt)
 obtain ⟨V, hV⟩ : ∃ V, V = (w.alloc (.cells #[pR r] 120)).alloc (.cells #[.int .i64 0, .int .i64 0, .int .i64 0, .slice none 0 0, .int .i64 0, .int .i64 0, .slice none 0 0, .int .i64 0, .slice none 0 0] 39) := ⟨_, rfl⟩
 have HwV : Hid (Below w.heap.size w V) := hi_ (by rw [hV]; exact below2 _ _ _)
 have HBV : Hid (Blk V w.heap.size 120 #[pR r]) := hi_ (by rw [hV]; exact (Blk.new _ _ _).alloc _)
 have HRV : Hid (Blk V (w.heap.size + 1) 39 #[.int .i64 0, .int .i64 0, .int .i64 0, .slice none 0 0, .int .i64 0, .int .i64 0, .slice none 0 0, .int .i64 0, .slice none 0 0]) := hi_ (by
  rw [hV]
  have := Blk.new (w.alloc (.cells #[pR r] 120)) 39 #[.int .i64 0, .int .i64 0, .int .i64 0, .slice none 0 0, .int .i64 0, .int .i64 0, .slice none 0 0, .int .i64 0, .slice none 0 0]
  simpa using this)
 have HSV := hi_ (h.below HwV.out)
 have HNB : Hid (w.heap.size ≠ r.gR ∧ w.heap.size ≠ r.gA ∧ w.heap.size + 1 ≠ r.gR ∧ w.heap.size + 1 ≠ r.gA) := hi_ (by have := HLT.out; omega)
 have HNG2 : Hid (w.heap.size + 1 ≠ r.gR ∧ w.heap.size + 1 ≠ r.gA ∧ w.heap.size + 1 ≠ r.gL) := hi_ (by have := HLT.out; omega)
 have HTXl : Hid ((nxt r.x.l 0).text.length ≤ 16384) := hi_ (by
  rcases Nat.eq_zero_or_pos r.x.l.length with h0 | h0
  · rw [nxt_out (by omega)]; exact Nat.zero_le _
  · rw [nxt_in h0]; exact htx _ (List.getElem_mem h0))
 have HPOS : Hid (kindW (nxt r.x.l 0).text ≠ 0 → 0 < r.x.l.length) := hi_ (fun hk => by
  rcases Nat.eq_zero_or_pos r.x.l.length with h0 | h0
  · rw [nxt_out (by omega)] at hk; exact absurd rfl hk
  · exact h0)
 have HOA := hi_ (opA.eq_1 r.p r.x.l)
 generalize opA r.p r.x.l = RO at *
 have hmm := @run_makeMap Tryz.prog
 clear E h hna hnt htx
 obtain ⟨V1, hV1⟩ : ∃ V1, V1 = V.alloc (.map #[] 0) := ⟨_, rfl⟩
 have HB1V : Hid (Below V.heap.size V V1) := hi_ (by rw [hV1]; exact below1 _ _)
 have HOM : Hid (V1.ownsMap Tryz.prog 9 (plainElem (H := Unit) Tryz.prog 3) V.heap.size 0 (DataW.map [])) := hi_ (by rw [hV1]; exact World.ownsMap_made _ _ _ _)
 go_enter Tryz.func62, Tryz.ntmps62
 go_upto_region 1 with fail
 rw [← hV]
 clear hV
 go_wp2_with (first
  | (refine wpList_insert_O _ rfl _ _ _ 194 rfl 9 3 (string_keyed Tryz.underlying9) Tryz.underlying194 (plainElem (H := Unit) Tryz.prog 3) V.heap.size 0 _ rfl (by rw [← hV1]; exact HOM.out) (by unfold maxLen; decide) _ _ (.string wIns) rfl rfl (Go.WideMaps.keyOf_string_mk Tryz.underlying9 (by show (6 : Nat) ≤ maxLen; unfold maxLen; decide)) (.lit (.int .i64 1)) [] (plainElem_int Tryz.underlying3 (by decide)) ?_))
 intro m1 hm1 hg1
 rw [← hV1] at hg1
 go_wp2_with (first
  | (refine wpList_insert_O _ rfl _ _ _ 194 rfl 9 3 (string_keyed Tryz.underlying9) Tryz.underlying194 (plainElem (H := Unit) Tryz.prog 3) V.heap.size 1 _ rfl hm1 (by unfold maxLen; decide) _ _ (.string wMod) rfl rfl (Go.WideMaps.keyOf_string_mk Tryz.underlying9 (by show (6 : Nat) ≤ maxLen; unfold maxLen; decide)) (.lit (.int .i64 2)) [] (plainElem_int Tryz.underlying3 (by decide)) ?_))
 intro m2 hm2 hg2
 go_wp2_with (first
  | (refine wpList_insert_O _ rfl _ _ _ 194 rfl 9 3 (string_keyed Tryz.underlying9) Tryz.underlying194 (plainElem (H := Unit) Tryz.prog 3) V.heap.size 2 _ rfl hm2 (by unfold maxLen; decide) _ _ (.string wDel) rfl rfl (Go.WideMaps.keyOf_string_mk Tryz.underlying9 (by show (6 : Nat) ≤ maxLen; unfold maxLen; decide)) (.lit (.int .i64 3)) [] (plainElem_int Tryz.underlying3 (by decide)) ?_))
 intro m3 hm3 hg3
 go_wp2_with (first
  | (refine wpList_insert_O _ rfl _ _ _ 194 rfl 9 3 (string_keyed Tryz.underlying9) Tryz.underlying194 (plainElem (H := Unit) Tryz.prog 3) V.heap.size 3 _ rfl hm3 (by unfold maxLen; decide) _ _ (.string wDef) rfl rfl (Go.WideMaps.keyOf_string_mk Tryz.underlying9 (by show (7 : Nat) ≤ maxLen; unfold maxLen; decide)) (.lit (.int .i64 4)) [] (plainElem_int Tryz.underlying3 (by decide)) ?_))
 intro m4 hm4 hg4
 have HB5 : Hid (Below V.heap.size V m4) := hi_ (by
  have q := fun {a b : World} (h : Below V.heap.size V a) (g : a.grownBy b (some V.heap.size)) => h.grown g h.size (fun k hk => by cases hk; exact Nat.le_refl _)
  exact q (q (q (q HB1V.out hg1) hg2) hg3) hg4)
 have HM4 : Hid (m4.ownsMap Tryz.prog 9 (plainElem (H := Unit) Tryz.prog 3) V.heap.size 4 kindsD) := hi_ hm4
 clear hm1 hm2 hm3 hm4 hg1 hg2 hg3 hg4 hV1 hmm HOM HB1V
 have HS5 := hi_ (HSV.out.below HB5.out)
 have HBb := hi_ (HBV.out.below HB5.out HBV.out.lt)
 have HRb := hi_ (HRV.out.below HB5.out HRV.out.lt)
 clear HSV HBV HRV HB5 HwV
 obtain ⟨bR, bA, hi1⟩ := HS5.out.okc
 have c9 : m4.cell? ⟨r.gR, 9, none⟩ = some (nextF r) := bR.cell 9
 unfold nextF at c9
 have cB : m4.cell? ⟨w.heap.size, 0, none⟩ = some (pR r) := HBb.out.cell 0
 have HN := hi_ (onext_any r.x 0 r.gA r.gL m4 (HE.out.toks.below HS5.out.base (Nat.le_refl _)) bA HS5.out.lb)
 clear bR bA hi1
 generalize nxt r.x.l 0 = t at *
 obtain ⟨tk, tx, tv, tl⟩ := t
 simp only at HOA HTXl HPOS HN
 have hft := tk_text (.int .i64 tk) (.string ⟨tx.toArray⟩) (.int .u32 tv) (.int .i64 tl)
 have HKy := hi_ (Go.WideMaps.keyOf_string_mk (P := Tryz.prog) Tryz.underlying9 (s := ⟨tx.toArray⟩) (by show tx.length ≤ maxLen; have := HTXl.out; unfold maxLen; omega))
 go_wp2_with fail
 refine HN.out.mono ?_
 rintro e1 m5 ⟨rfl, hb5⟩
 have HS6 := hi_ (HS5.out.below hb5)
 have HB6 := hi_ (HBb.out.below hb5 HBb.out.lt)
 have HR6 := hi_ (HRb.out.below hb5 HRb.out.lt)
 have HM5 := hi_ (HM4.out.kept (only_of_below hb5 none) (by simp))
 clear hb5 HN c9 cB HS5 HBb HRb HM4
 go_wp2_with (first
  | (at_lookup; refine wpList_lookup_own_ok_int _ rfl _ _ 194 rfl 9 3 .i64 (string_keyed Tryz.underlying9) Tryz.underlying194 Tryz.underlying3 (by kernel_rfl) V.heap.size 4 kindsD rfl HM5.out _ (.string tx) rfl HKy.out ?_))
 intro c hat hwc
 obtain rfl : c = (kindW tx : Int) := by
  rw [(kinds_at tx).1] at hat
  injection hat with e
  injection e with _ e
  exact e.symm
 rw [(kinds_at tx).2]
 clear hat hwc HM5 HKy HTXl hft
 have HK5 : (kindW tx = 0 ∧ ((kindW tx : Nat) : Int) = 0 ∧ decide (kindW tx ≠ 0) = false) ∨ (kindW tx ≠ 0 ∧ decide (kindW tx ≠ 0) = true) := by
  by_cases h : kindW tx = 0
  · rw [h]; exact .inl ⟨rfl, rfl, rfl⟩
  · exact .inr ⟨h, decide_eq_true h⟩
 rcases HK5 with ⟨hk, e1, e2⟩ | ⟨hk, e2⟩
 ·
  have HRO := tr_ HOA (if_pos hk)
  rw [e1, e2]
  clear e1 e2 hk HOA HPOS
  obtain ⟨bR, _⟩ := HS6.out.okc
  have c11 : m5.cell? ⟨r.gR, 11, none⟩ = some (.int .i64 0) := bR.cell 11
  have f11 : m5.frozen? ⟨r.gR, 11, none⟩ = false := bR.frozen 11
  have cB : m5.cell? ⟨w.heap.size, 0, none⟩ = some (pR r) := HB6.out.cell 0
  clear bR
  go_upto_region 5 with fail
  obtain ⟨X, hX⟩ : ∃ X, X = m5.setCell ⟨r.gR, 11, none⟩ (.int .i64 5) := ⟨_, rfl⟩
  have HS : Hid (OSt W w X r (.bad 5)) := hi_ (by rw [hX]; exact HS6.out.err HE.out (x := 5) (by decide))
  have HR : Hid (Blk X (w.heap.size + 1) 39 #[.int .i64 0, .int .i64 0, .int .i64 0, .slice none 0 0, .int .i64 0, .int .i64 0, .slice none 0 0, .int .i64 0, .slice none 0 0]) := hi_ (by rw [hX]; exact HR6.out.far HNG2.out.1 _)
  rw [← hX]
  clear hX c11 f11 cB HS6 HB6 HR6
  have q0 : X.cell? ⟨w.heap.size + 1, 0, none⟩ = some (.int .i64 0) := HR.out.cell 0
  have g0 : X.frozen? ⟨w.heap.size + 1, 0, none⟩ = false := HR.out.frozen 0
  have q1 : X.cell? ⟨w.heap.size + 1, 1, none⟩ = some (.int .i64 0) := HR.out.cell 1
  have g1 : X.frozen? ⟨w.heap.size + 1, 1, none⟩ = false := HR.out.frozen 1
  have q2 : X.cell? ⟨w.heap.size + 1, 2, none⟩ = some (.int .i64 0) := HR.out.cell 2
  have g2 : X.frozen? ⟨w.heap.size + 1, 2, none⟩ = false := HR.out.frozen 2
  have q3 : X.cell? ⟨w.heap.size + 1, 3, none⟩ = some (.slice none 0 0) := HR.out.cell 3
  have g3 : X.frozen? ⟨w.heap.size + 1, 3, none⟩ = false := HR.out.frozen 3
  have q4 : X.cell? ⟨w.heap.size + 1, 4, none⟩ = some (.int .i64 0) := HR.out.cell 4
  have g4 : X.frozen? ⟨w.heap.size + 1, 4, none⟩ = false := HR.out.frozen 4
  have q5 : X.cell? ⟨w.heap.size + 1, 5, none⟩ = some (.int .i64 0) := HR.out.cell 5
  have g5 : X.frozen? ⟨w.heap.size + 1, 5, none⟩ = false := HR.out.frozen 5
  have q6 : X.cell? ⟨w.heap.size + 1, 6, none⟩ = some (.slice none 0 0) := HR.out.cell 6
  have g6 : X.frozen? ⟨w.heap.size + 1, 6, none⟩ = false := HR.out.frozen 6
  have q7 : X.cell? ⟨w.heap.size + 1, 7, none⟩ = some (.int .i64 0) := HR.out.cell 7
  have g7 : X.frozen? ⟨w.heap.size + 1, 7, none⟩ = false := HR.out.frozen 7
  have q8 : X.cell? ⟨w.heap.size + 1, 8, none⟩ = some (.slice none 0 0) := HR.out.cell 8
  have g8 : X.frozen? ⟨w.heap.size + 1, 8, none⟩ = false := HR.out.frozen 8
  go_wp2
  refine bodyPost_ret (v := .agg (opCells zeroO)) ?_ rfl ?_
  · exact results_cell_row (fn := Tryz.f62) (p := 2) (ty := 39) rfl _ _ (w.heap.size + 1) 39 (opCells zeroO) (0, 0) _ rfl (put9O HR.out _ _ _ _ _ _ _ _ _) Tryz.underlying39 rfl (by kernel_rfl)
  · exact oper_end (o := zeroO) (s := .bad 5) (B := w.heap.size + 2) (by rw [HRO.out]; rfl) HS.out (zero_lies _ _) (by omega) (by have := HBW.out; omega) HNG2.out _ _ _ _ _ _ _ _ _
 have HIL := hi_ (HPOS.out hk)
 have HKN := hi_ hk
 rw [e2]
 obtain ⟨KI, hKI⟩ : ∃ K : Int, K = ((kindW tx : Nat) : Int) := ⟨_, rfl⟩
 rw [← hKI]
 have HK := hi_ hKI
 clear e2 hk hKI HPOS
 obtain ⟨bR, bA, hi1⟩ := HS6.out.okc
 have c10 : m5.cell? ⟨r.gR, 10, none⟩ = some (stepF r) := bR.cell 10
 unfold stepF at c10
 have cB : m5.cell? ⟨w.heap.size, 0, none⟩ = some (pR r) := HB6.out.cell 0
 have HST := hi_ (ostep_any 0 r.gA m5 (by decide) bA)
 have HSX := hi_ (HS6.out.step HE.out HIL.out)
 clear bR bA hi1
 go_wp2_with fail
 refine HST.out.mono ?_
 rintro e1 w1 ⟨rfl, hw2⟩
 have HS1 : Hid (OSt W w w1 r (.ok 1)) := hi_ (by rw [hw2]; exact HSX.out)
 have HBb1 : Hid (Blk w1 w.heap.size 120 #[pR r]) := hi_ (by rw [hw2]; exact HB6.out.far HNB.out.2.1 _)
 have HRb1 : Hid (Blk w1 (w.heap.size + 1) 39 #[.int .i64 0, .int .i64 0, .int .i64 0, .slice none 0 0, .int .i64 0, .int .i64 0, .slice none 0 0, .int .i64 0, .slice none 0 0]) := hi_ (by rw [hw2]; exact HR6.out.far HNB.out.2.2.2 _)
 clear hw2 HSX HST c10 cB HS6 HB6 HR6
 go_upto_region 7 with fail
 have HSD := hi_ (HS1.out.below (below_drew (Below.refl _ _))).refl
 have HBD : Hid (Blk w1.drew w.heap.size 120 #[pR r]) := hi_ HBb1.out
 have HRD : Hid (Blk w1.drew (w.heap.size + 1) 39 #[.int .i64 0, .int .i64 0, .int .i64 0, .slice none 0 0, .int .i64 0, .int .i64 0, .slice none 0 0, .int .i64 0, .slice none 0 0]) := hi_ HRb1.out
 have HRS := hi_ (fun (u : World) (hu : OSt W u u r (.ok 1)) (hb : Blk u w.heap.size 120 #[pR r]) => show Calls Tryz.prog 130 #[.pointer (some ⟨r.gR, 0, none⟩), .int .i64 r.p.tables.l.length, .func (.func 131) #[] #[.pointer (some ⟨w.heap.size, 0, none⟩)]] u fun e w' => e = .returned (.int .i64 (resA r.x.l (r.p.tables.l.map TabD.name) (.ok 1)).1) ∧ OSt W u w' r (resA r.x.l (r.p.tables.l.map TabD.name) (.ok 1)).2 from by
  have h := oresolveT HE.out hu (r.p.tables.l.map TabD.name) (by rw [List.length_map]; exact HNM.out.2) w.heap.size (op_name r _) hb HNB.out.1 HNB.out.2.1
  rw [List.length_map] at h
  exact h)
 generalize resA r.x.l (r.p.tables.l.map TabD.name) (.ok 1) = q2 at *
 obtain ⟨R1, s2⟩ := q2
 simp only at HOA HRS
 go_cut [6] from 31 to 42 (fun v6 wr => ∃ g : Nat, v6 = .pointer (some ⟨g, 0, none⟩) ∧ w.heap.size + 1 < g ∧ Hid (Blk wr g 39 #[.int .i64 KI, .int .i64 R1, .int .i64 0, .slice none 0 0, .int .i64 0, .int .i64 0, .slice none 0 0, .int .i64 0, .slice none 0 0]) ∧ Hid (Blk wr w.heap.size 120 #[pR r]) ∧ Hid (Blk wr (w.heap.size + 1) 39 #[.int .i64 0, .int .i64 0, .int .i64 0, .slice none 0 0, .int .i64 0, .int .i64 0, .slice none 0 0, .int .i64 0, .slice none 0 0]) ∧ Hid (OSt W w wr r s2) ∧ Hid (g ≠ r.gR ∧ g ≠ r.gA ∧ g ≠ r.gL ∧ w.heap.size + 1 < g))
 case first =>
  refine wp_region_held_drew (S := (fun u => u.cell? ⟨w.heap.size, 0, none⟩ = some (pR r) ∧ u.cell? ⟨r.gR, 5, none⟩ = some (.slice r.p.tables.A r.p.tables.l.length r.p.tables.c))) (by kernel_rfl) (tabSt_of (HS1.out.below (below_drew (Below.refl _ _))) HBD.out) (fun hHeld => ?_)
  refine wpAnyH_take (i := 0) (oi := { dst := some 31, op := Op.move (Operand.tmp 4), type := 3, pos := "optext.go:175", after := #[], guard := none }) (v := ?a1_v0) rfl (by kernel_rfl) (by kernel_rfl) (by kernel_rfl) (fun _ _ _ h => h) (Or.inl ⟨by rfl, ?a1_y0⟩) (by assumption) ?a1_r0
  case a1_y0 => (intro w hSw; (try dsimp only at hSw); go_simp; try (with_reducible rfl))
  try simp only [Act.put, sA, sZ, sS]
  refine wpAnyH_take (i := 1) (oi := { dst := some 32, op := Op.load 120 (Operand.tmp 1), type := 120, pos := "optext.go:175", after := #[], guard := none }) (v := ?a2_v1) rfl (by kernel_rfl) (by kernel_rfl) (by kernel_rfl) (fun _ _ _ h => h) (Or.inl ⟨by rfl, ?a2_y1⟩) (by assumption) ?a2_r1
  case a2_y1 => (intro w hSw; (try dsimp only at hSw); go_simp; try (with_reducible rfl))
  try simp only [Act.put, sA, sZ, sS]
  refine wpAnyH_take (i := 2) (oi := { dst := some 33, op := Op.load 120 (Operand.tmp 1), type := 120, pos := "optext.go:175", after := #[], guard := none }) (v := ?a3_v2) rfl (by kernel_rfl) (by kernel_rfl) (by kernel_rfl) (fun _ _ _ h => h) (Or.inl ⟨by rfl, ?a3_y2⟩) (by assumption) ?a3_r2
  case a3_y2 => (intro w hSw; (try dsimp only at hSw); go_simp; try (with_reducible rfl))
  try simp only [Act.put, sA, sZ, sS]
  refine wpAnyH_take (i := 3) (oi := { dst := some 34, op := Op.nilCheck (Operand.tmp 33), type := 0, pos := "optext.go:175", after := #[{ on := 2, ground := Ground.data }], guard := none }) (v := ?a4_v3) rfl (by kernel_rfl) (by kernel_rfl) (by kernel_rfl) (fun _ _ _ h => h) (Or.inl ⟨by rfl, ?a4_y3⟩) (by assumption) ?a4_r3
  case a4_y3 => (intro w hSw; (try dsimp only at hSw); go_simp; try (with_reducible rfl))
  try simp only [Act.put, sA, sZ, sS]
  refine wpAnyH_take (i := 4) (oi := { dst := some 35, op := Op.fieldAddr 125 (Operand.tmp 34) 0, type := 0, pos := "optext.go:175", after := #[{ on := 3, ground := Ground.data }], guard := none }) (v := ?a5_v4) rfl (by kernel_rfl) (by kernel_rfl) (by kernel_rfl) (fun _ _ _ h => h) (Or.inl ⟨by rfl, ?a5_y4⟩) (by assumption) ?a5_r4
  case a5_y4 => (intro w hSw; (try dsimp only at hSw); go_simp; try (with_reducible rfl))
  try simp only [Act.put, sA, sZ, sS]
  refine wpAnyH_take (i := 5) (oi := { dst := some 36, op := Op.fieldAddr 31 (Operand.tmp 35) 5, type := 0, pos := "optext.go:175", after := #[{ on := 4, ground := Ground.data }], guard := none }) (v := ?a6_v5) rfl (by kernel_rfl) (by kernel_rfl) (by kernel_rfl) (fun _ _ _ h => h) (Or.inl ⟨by rfl, ?a6_y5⟩) (by assumption) ?a6_r5
  case a6_y5 => (intro w hSw; (try dsimp only at hSw); go_simp; try (with_reducible rfl))
  try simp only [Act.put, sA, sZ, sS]
  refine wpAnyH_take (i := 6) (oi := { dst := some 37, op := Op.load 26 (Operand.tmp 36), type := 26, pos := "optext.go:175", after := #[{ on := 5, ground := Ground.data }], guard := none }) (v := ?a7_v6) rfl (by kernel_rfl) (by kernel_rfl) (by kernel_rfl) (fun _ _ _ h => h) (Or.inl ⟨by rfl, ?a7_y6⟩) (by assumption) ?a7_r6
  case a7_y6 => (intro w hSw; (try dsimp only at hSw); go_simp; try (with_reducible rfl))
  try simp only [Act.put, sA, sZ, sS]
  refine wpAnyH_take (i := 7) (oi := { dst := some 38, op := Op.call { callee := Callee.builtin Builtin.len, args := #[Operand.tmp 37], argTypes := #[26] }, type := 3, pos := "optext.go:175", after := #[{ on := 6, ground := Ground.data }], guard := none }) (v := ?a8_v7) rfl (by kernel_rfl) (by kernel_rfl) (by kernel_rfl) (fun _ _ _ h => h) (Or.inl ⟨by rfl, ?a8_y7⟩) (by assumption) ?a8_r7
  case a8_y7 => (intro w hSw; (try dsimp only at hSw); go_simp; try (with_reducible rfl))
  try simp only [Act.put, sA, sZ, sS]
  refine wpAnyH_take (i := 8) (oi := { dst := some 39, op := Op.makeFunc (Fn.func 131) #[] #[Operand.tmp 1], type := 73, pos := "optext.go:175", after := #[], guard := none }) (v := ?a9_v8) rfl (by kernel_rfl) (by kernel_rfl) (by kernel_rfl) (fun _ _ _ h => h) (Or.inl ⟨by rfl, ?a9_y8⟩) (by assumption) ?a9_r8
  case a9_y8 => (intro w hSw; (try dsimp only at hSw); go_simp; try (with_reducible rfl))
  try simp only [Act.put, sA, sZ, sS]
  refine wpAnyH_ready (rs := [9, 11]) (by kernel_rfl) (by simp) ?_
  refine AllReadyH.cons (o := { dst := some 40, op := Op.call { callee := Callee.value (Operand.func 130), args := #[Operand.tmp 32, Operand.tmp 38, Operand.tmp 39], argTypes := #[120, 3, 73] }, type := 3, pos := "optext.go:175", after := #[{ on := 1, ground := Ground.data }, { on := 7, ground := Ground.data }, { on := 8, ground := Ground.data }], guard := none }) rfl (fun K hK => ?_) (AllReadyH.cons (o := { dst := some 6, op := Op.alloc 39, type := 0, pos := "optext.go:175", after := #[], guard := none }) rfl (fun K hK => ?_) (AllReadyH.nil))
  ·
   skip
   go_simp
   go_at_call 130
   refine (HRS.out _ HSD.out HBD.out).mono ?_
   rintro e u2 ⟨rfl, h2⟩
   have HS2 := hi_ ((HS1.out.below (below_drew (Below.refl _ _))).then h2)
   have HB2 := hi_ (h2.gr.blk HBD.out HNB.out.1 HNB.out.2.1)
   have HR2 := hi_ (h2.gr.blk HRD.out HNB.out.2.2.1 HNB.out.2.2.2)
   clear h2
   have hNEW : TabSt w.heap.size r u2 := tabSt_of HS2.out HB2.out
   refine hK.out _ _ hNEW (fun hHeld5 => ?_)
   clear hK K hNEW
   refine wpAnyH_take (i := 10) (oi := { dst := some 41, op := Op.build 39 #[(0, Operand.tmp 31), (1, Operand.tmp 40)], type := 39, pos := "optext.go:175", after := #[{ on := 0, ground := Ground.data }, { on := 9, ground := Ground.data }], guard := none }) (v := ?a10_v10) rfl (by kernel_rfl) (by kernel_rfl) (by kernel_rfl) (fun _ _ _ h => h) (Or.inl ⟨by rfl, ?a10_y10⟩) (by assumption) ?a10_r10
   case a10_y10 => (intro w hSw; (try dsimp only at hSw); go_simp; try (with_reducible rfl))
   try simp only [Act.put, sA, sZ, sS]
   refine wpAnyH_ready (rs := [11]) (by kernel_rfl) (by simp) ?_
   refine AllReadyH.cons (o := { dst := some 6, op := Op.alloc 39, type := 0, pos := "optext.go:175", after := #[], guard := none }) rfl (fun K hK => ?_) (AllReadyH.nil)
   go_simp
   obtain ⟨U1, hU1⟩ : ∃ U1, U1 = (u2.alloc (.cells #[.int .i64 0, .int .i64 0, .int .i64 0, .slice none 0 0, .int .i64 0, .int .i64 0, .slice none 0 0, .int .i64 0, .slice none 0 0] 39)) := ⟨_, rfl⟩
   have HBL : Hid (Below u2.heap.size u2 U1) := hi_ (by rw [hU1]; exact below1 _ _)
   have HSU := hi_ (HS2.out.below HBL.out)
   have HBU := hi_ (HB2.out.below HBL.out HB2.out.lt)
   have HRU := hi_ (HR2.out.below HBL.out HR2.out.lt)
   have HCU : Hid (Blk U1 u2.heap.size 39 #[.int .i64 0, .int .i64 0, .int .i64 0, .slice none 0 0, .int .i64 0, .int .i64 0, .slice none 0 0, .int .i64 0, .slice none 0 0]) := hi_ (by rw [hU1]; exact show Blk (u2.alloc _) _ _ _ from Blk.new u2 _ _)
   have HNG : Hid (u2.heap.size ≠ r.gR ∧ u2.heap.size ≠ r.gA ∧ u2.heap.size ≠ r.gL ∧ w.heap.size + 1 < u2.heap.size) := hi_ (by have h1 := HS2.out.lt; have h2 := HR2.out.lt; omega)
   have hNEW : TabSt w.heap.size r (u2.alloc (.cells #[.int .i64 0, .int .i64 0, .int .i64 0, .slice none 0 0, .int .i64 0, .int .i64 0, .slice none 0 0, .int .i64 0, .slice none 0 0] 39)) := by rw [← hU1]; exact tabSt_of HSU.out HBU.out
   refine hK.out _ _ hNEW (fun hHeld6 => ?_)
   clear hK K hNEW
   rw [← hU1]
   clear hU1
   refine wpAnyH_ready (rs := [12]) (by kernel_rfl) (by simp) ?_
   refine AllReadyH.cons (o := { dst := none, op := Op.store 39 (Operand.tmp 6) (Operand.tmp 41), type := 0, pos := "optext.go:175", after := #[{ on := 11, ground := Ground.data }, { on := 10, ground := Ground.data }, { on := 9, ground := Ground.chain }, { on := 0, ground := Ground.phase }, { on := 1, ground := Ground.phase }, { on := 2, ground := Ground.phase }, { on := 3, ground := Ground.phase }, { on := 4, ground := Ground.phase }, { on := 5, ground := Ground.phase }, { on := 6, ground := Ground.phase }, { on := 7, ground := Ground.phase }, { on := 8, ground := Ground.phase }, { on := 9, ground := Ground.phase }, { on := 10, ground := Ground.phase }, { on := 11, ground := Ground.phase }], guard := none }) rfl (fun K hK => ?_) (AllReadyH.nil)
   have r0 : U1.cell? ⟨u2.heap.size, 0, none⟩ = some (.int .i64 0) := HCU.out.cell 0
   have f0 : U1.frozen? ⟨u2.heap.size, 0, none⟩ = false := HCU.out.frozen 0
   have r1 : U1.cell? ⟨u2.heap.size, 1, none⟩ = some (.int .i64 0) := HCU.out.cell 1
   have f1 : U1.frozen? ⟨u2.heap.size, 1, none⟩ = false := HCU.out.frozen 1
   have r2 : U1.cell? ⟨u2.heap.size, 2, none⟩ = some (.int .i64 0) := HCU.out.cell 2
   have f2 : U1.frozen? ⟨u2.heap.size, 2, none⟩ = false := HCU.out.frozen 2
   have r3 : U1.cell? ⟨u2.heap.size, 3, none⟩ = some (.slice none 0 0) := HCU.out.cell 3
   have f3 : U1.frozen? ⟨u2.heap.size, 3, none⟩ = false := HCU.out.frozen 3
   have r4 : U1.cell? ⟨u2.heap.size, 4, none⟩ = some (.int .i64 0) := HCU.out.cell 4
   have f4 : U1.frozen? ⟨u2.heap.size, 4, none⟩ = false := HCU.out.frozen 4
   have r5 : U1.cell? ⟨u2.heap.size, 5, none⟩ = some (.int .i64 0) := HCU.out.cell 5
   have f5 : U1.frozen? ⟨u2.heap.size, 5, none⟩ = false := HCU.out.frozen 5
   have r6 : U1.cell? ⟨u2.heap.size, 6, none⟩ = some (.slice none 0 0) := HCU.out.cell 6
   have f6 : U1.frozen? ⟨u2.heap.size, 6, none⟩ = false := HCU.out.frozen 6
   have r7 : U1.cell? ⟨u2.heap.size, 7, none⟩ = some (.int .i64 0) := HCU.out.cell 7
   have f7 : U1.frozen? ⟨u2.heap.size, 7, none⟩ = false := HCU.out.frozen 7
   have r8 : U1.cell? ⟨u2.heap.size, 8, none⟩ = some (.slice none 0 0) := HCU.out.cell 8
   have f8 : U1.frozen? ⟨u2.heap.size, 8, none⟩ = false := HCU.out.frozen 8
   go_simp
   obtain ⟨U3, hU3⟩ : ∃ U3, U3 = (((((((((U1.setCell ⟨u2.heap.size, 0, none⟩ (.int .i64 KI)).setCell ⟨u2.heap.size, 1, none⟩ (.int .i64 R1)).setCell ⟨u2.heap.size, 2, none⟩ (.int .i64 0)).setCell ⟨u2.heap.size, 3, none⟩ (.slice none 0 0)).setCell ⟨u2.heap.size, 4, none⟩ (.int .i64 0)).setCell ⟨u2.heap.size, 5, none⟩ (.int .i64 0)).setCell ⟨u2.heap.size, 6, none⟩ (.slice none 0 0)).setCell ⟨u2.heap.size, 7, none⟩ (.int .i64 0)).setCell ⟨u2.heap.size, 8, none⟩ (.slice none 0 0)) := ⟨_, rfl⟩
   have HC3 : Hid (Blk U3 (u2.heap.size) 39 #[.int .i64 KI, .int .i64 R1, .int .i64 0, .slice none 0 0, .int .i64 0, .int .i64 0, .slice none 0 0, .int .i64 0, .slice none 0 0]) := hi_ (by rw [hU3]; exact put9O HCU.out _ _ _ _ _ _ _ _ _)
   have HFr : Hid (w.heap.size ≠ u2.heap.size ∧ w.heap.size + 1 ≠ u2.heap.size) := hi_ (by have := HNG.out; omega)
   have HB3 : Hid (Blk U3 w.heap.size 120 #[pR r]) := hi_ (by rw [hU3]; exact far9 HBU.out HFr.out.1 _ _ _ _ _ _ _ _ _)
   have HR3 : Hid (Blk U3 (w.heap.size + 1) 39 #[.int .i64 0, .int .i64 0, .int .i64 0, .slice none 0 0, .int .i64 0, .int .i64 0, .slice none 0 0, .int .i64 0, .slice none 0 0]) := hi_ (by rw [hU3]; exact far9 HRU.out HFr.out.2 _ _ _ _ _ _ _ _ _)
   have HS3 : Hid (OSt W w U3 r s2) := hi_ (by rw [hU3]; have h := HNG.out; have h2 := HBW.out; exact set9 HSU.out (by omega) (by omega) ⟨h.1, h.2.1, h.2.2.1⟩ _ _ _ _ _ _ _ _ _)
   have hNEW : TabSt w.heap.size r (((((((((U1.setCell ⟨u2.heap.size, 0, none⟩ (.int .i64 KI)).setCell ⟨u2.heap.size, 1, none⟩ (.int .i64 R1)).setCell ⟨u2.heap.size, 2, none⟩ (.int .i64 0)).setCell ⟨u2.heap.size, 3, none⟩ (.slice none 0 0)).setCell ⟨u2.heap.size, 4, none⟩ (.int .i64 0)).setCell ⟨u2.heap.size, 5, none⟩ (.int .i64 0)).setCell ⟨u2.heap.size, 6, none⟩ (.slice none 0 0)).setCell ⟨u2.heap.size, 7, none⟩ (.int .i64 0)).setCell ⟨u2.heap.size, 8, none⟩ (.slice none 0 0)) := by rw [← hU3]; exact tabSt_of HS3.out HB3.out
   refine hK.out _ _ hNEW (fun hHeld7 => ?_)
   clear hK K hNEW
   rw [← hU3]
   clear hU3 r0 f0 r1 f1 r2 f2 r3 f3 r4 f4 r5 f5 r6 f6 r7 f7 r8 f8
   refine wpAnyH_done (by kernel_rfl) ?_ _
   go_wp2
   go_meet
   case rel => exact ⟨_, rfl, HNG.out.2.2.2, HC3, HB3, HR3, HS3, HNG⟩
  ·
   skip
   go_simp
   obtain ⟨U1, hU1⟩ : ∃ U1, U1 = ((w1.alloc (.cells #[.int .i64 0, .int .i64 0, .int .i64 0, .slice none 0 0, .int .i64 0, .int .i64 0, .slice none 0 0, .int .i64 0, .slice none 0 0] 39)).drew) := ⟨_, rfl⟩
   have HBL : Hid (Below w1.heap.size w1 U1) := hi_ (by rw [hU1]; exact below_drew (below1 _ _))
   have HSU := hi_ (HS1.out.below HBL.out)
   have HBU := hi_ (HBb1.out.below HBL.out HBb1.out.lt)
   have HRU := hi_ (HRb1.out.below HBL.out HRb1.out.lt)
   have HCU : Hid (Blk U1 w1.heap.size 39 #[.int .i64 0, .int .i64 0, .int .i64 0, .slice none 0 0, .int .i64 0, .int .i64 0, .slice none 0 0, .int .i64 0, .slice none 0 0]) := hi_ (by rw [hU1]; exact show Blk (w1.alloc _) _ _ _ from Blk.new w1 _ _)
   have HNG : Hid (w1.heap.size ≠ r.gR ∧ w1.heap.size ≠ r.gA ∧ w1.heap.size ≠ r.gL ∧ w.heap.size + 1 < w1.heap.size) := hi_ (by have h1 := HS1.out.lt; have h2 := HRb1.out.lt; omega)
   have hNEW : TabSt w.heap.size r ((w1.alloc (.cells #[.int .i64 0, .int .i64 0, .int .i64 0, .slice none 0 0, .int .i64 0, .int .i64 0, .slice none 0 0, .int .i64 0, .slice none 0 0] 39)).drew) := by rw [← hU1]; exact tabSt_of HSU.out HBU.out
   refine hK.out _ _ hNEW (fun hHeld6 => ?_)
   clear hK K hNEW
   rw [← hU1]
   clear hU1
   refine wpAnyH_ready (rs := [9]) (by kernel_rfl) (by simp) ?_
   refine AllReadyH.cons (o := { dst := some 40, op := Op.call { callee := Callee.value (Operand.func 130), args := #[Operand.tmp 32, Operand.tmp 38, Operand.tmp 39], argTypes := #[120, 3, 73] }, type := 3, pos := "optext.go:175", after := #[{ on := 1, ground := Ground.data }, { on := 7, ground := Ground.data }, { on := 8, ground := Ground.data }], guard := none }) rfl (fun K hK => ?_) (AllReadyH.nil)
   go_simp
   go_at_call 130
   refine (HRS.out _ HSU.out.refl HBU.out).mono ?_
   rintro e u2 ⟨rfl, h2⟩
   have HS2 := hi_ (HSU.out.then h2)
   have HB2 := hi_ (h2.gr.blk HBU.out HNB.out.1 HNB.out.2.1)
   have HR2 := hi_ (h2.gr.blk HRU.out HNB.out.2.2.1 HNB.out.2.2.2)
   have HC2 := hi_ (h2.gr.blk HCU.out HNG.out.1 HNG.out.2.1)
   clear h2
   have hNEW : TabSt w.heap.size r u2 := tabSt_of HS2.out HB2.out
   refine hK.out _ _ hNEW (fun hHeld5 => ?_)
   clear hK K hNEW
   refine wpAnyH_take (i := 10) (oi := { dst := some 41, op := Op.build 39 #[(0, Operand.tmp 31), (1, Operand.tmp 40)], type := 39, pos := "optext.go:175", after := #[{ on := 0, ground := Ground.data }, { on := 9, ground := Ground.data }], guard := none }) (v := ?a11_v10) rfl (by kernel_rfl) (by kernel_rfl) (by kernel_rfl) (fun _ _ _ h => h) (Or.inl ⟨by rfl, ?a11_y10⟩) (by assumption) ?a11_r10
   case a11_y10 => (intro w hSw; (try dsimp only at hSw); go_simp; try (with_reducible rfl))
   try simp only [Act.put, sA, sZ, sS]
   refine wpAnyH_ready (rs := [12]) (by kernel_rfl) (by simp) ?_
   refine AllReadyH.cons (o := { dst := none, op := Op.store 39 (Operand.tmp 6) (Operand.tmp 41), type := 0, pos := "optext.go:175", after := #[{ on := 11, ground := Ground.data }, { on := 10, ground := Ground.data }, { on := 9, ground := Ground.chain }, { on := 0, ground := Ground.phase }, { on := 1, ground := Ground.phase }, { on := 2, ground := Ground.phase }, { on := 3, ground := Ground.phase }, { on := 4, ground := Ground.phase }, { on := 5, ground := Ground.phase }, { on := 6, ground := Ground.phase }, { on := 7, ground := Ground.phase }, { on := 8, ground := Ground.phase }, { on := 9, ground := Ground.phase }, { on := 10, ground := Ground.phase }, { on := 11, ground := Ground.phase }], guard := none }) rfl (fun K hK => ?_) (AllReadyH.nil)
   have r0 : u2.cell? ⟨w1.heap.size, 0, none⟩ = some (.int .i64 0) := HC2.out.cell 0
   have f0 : u2.frozen? ⟨w1.heap.size, 0, none⟩ = false := HC2.out.frozen 0
   have r1 : u2.cell? ⟨w1.heap.size, 1, none⟩ = some (.int .i64 0) := HC2.out.cell 1
   have f1 : u2.frozen? ⟨w1.heap.size, 1, none⟩ = false := HC2.out.frozen 1
   have r2 : u2.cell? ⟨w1.heap.size, 2, none⟩ = some (.int .i64 0) := HC2.out.cell 2
   have f2 : u2.frozen? ⟨w1.heap.size, 2, none⟩ = false := HC2.out.frozen 2
   have r3 : u2.cell? ⟨w1.heap.size, 3, none⟩ = some (.slice none 0 0) := HC2.out.cell 3
   have f3 : u2.frozen? ⟨w1.heap.size, 3, none⟩ = false := HC2.out.frozen 3
   have r4 : u2.cell? ⟨w1.heap.size, 4, none⟩ = some (.int .i64 0) := HC2.out.cell 4
   have f4 : u2.frozen? ⟨w1.heap.size, 4, none⟩ = false := HC2.out.frozen 4
   have r5 : u2.cell? ⟨w1.heap.size, 5, none⟩ = some (.int .i64 0) := HC2.out.cell 5
   have f5 : u2.frozen? ⟨w1.heap.size, 5, none⟩ = false := HC2.out.frozen 5
   have r6 : u2.cell? ⟨w1.heap.size, 6, none⟩ = some (.slice none 0 0) := HC2.out.cell 6
   have f6 : u2.frozen? ⟨w1.heap.size, 6, none⟩ = false := HC2.out.frozen 6
   have r7 : u2.cell? ⟨w1.heap.size, 7, none⟩ = some (.int .i64 0) := HC2.out.cell 7
   have f7 : u2.frozen? ⟨w1.heap.size, 7, none⟩ = false := HC2.out.frozen 7
   have r8 : u2.cell? ⟨w1.heap.size, 8, none⟩ = some (.slice none 0 0) := HC2.out.cell 8
   have f8 : u2.frozen? ⟨w1.heap.size, 8, none⟩ = false := HC2.out.frozen 8
   go_simp
   obtain ⟨U3, hU3⟩ : ∃ U3, U3 = (((((((((u2.setCell ⟨w1.heap.size, 0, none⟩ (.int .i64 KI)).setCell ⟨w1.heap.size, 1, none⟩ (.int .i64 R1)).setCell ⟨w1.heap.size, 2, none⟩ (.int .i64 0)).setCell ⟨w1.heap.size, 3, none⟩ (.slice none 0 0)).setCell ⟨w1.heap.size, 4, none⟩ (.int .i64 0)).setCell ⟨w1.heap.size, 5, none⟩ (.int .i64 0)).setCell ⟨w1.heap.size, 6, none⟩ (.slice none 0 0)).setCell ⟨w1.heap.size, 7, none⟩ (.int .i64 0)).setCell ⟨w1.heap.size, 8, none⟩ (.slice none 0 0)) := ⟨_, rfl⟩
   have HC3 : Hid (Blk U3 (w1.heap.size) 39 #[.int .i64 KI, .int .i64 R1, .int .i64 0, .slice none 0 0, .int .i64 0, .int .i64 0, .slice none 0 0, .int .i64 0, .slice none 0 0]) := hi_ (by rw [hU3]; exact put9O HC2.out _ _ _ _ _ _ _ _ _)
   have HFr : Hid (w.heap.size ≠ w1.heap.size ∧ w.heap.size + 1 ≠ w1.heap.size) := hi_ (by have := HNG.out; omega)
   have HB3 : Hid (Blk U3 w.heap.size 120 #[pR r]) := hi_ (by rw [hU3]; exact far9 HB2.out HFr.out.1 _ _ _ _ _ _ _ _ _)
   have HR3 : Hid (Blk U3 (w.heap.size + 1) 39 #[.int .i64 0, .int .i64 0, .int .i64 0, .slice none 0 0, .int .i64 0, .int .i64 0, .slice none 0 0, .int .i64 0, .slice none 0 0]) := hi_ (by rw [hU3]; exact far9 HR2.out HFr.out.2 _ _ _ _ _ _ _ _ _)
   have HS3 : Hid (OSt W w U3 r s2) := hi_ (by rw [hU3]; have h := HNG.out; have h2 := HBW.out; exact set9 HS2.out (by omega) (by omega) ⟨h.1, h.2.1, h.2.2.1⟩ _ _ _ _ _ _ _ _ _)
   have hNEW : TabSt w.heap.size r (((((((((u2.setCell ⟨w1.heap.size, 0, none⟩ (.int .i64 KI)).setCell ⟨w1.heap.size, 1, none⟩ (.int .i64 R1)).setCell ⟨w1.heap.size, 2, none⟩ (.int .i64 0)).setCell ⟨w1.heap.size, 3, none⟩ (.slice none 0 0)).setCell ⟨w1.heap.size, 4, none⟩ (.int .i64 0)).setCell ⟨w1.heap.size, 5, none⟩ (.int .i64 0)).setCell ⟨w1.heap.size, 6, none⟩ (.slice none 0 0)).setCell ⟨w1.heap.size, 7, none⟩ (.int .i64 0)).setCell ⟨w1.heap.size, 8, none⟩ (.slice none 0 0)) := by rw [← hU3]; exact tabSt_of HS3.out HB3.out
   refine hK.out _ _ hNEW (fun hHeld7 => ?_)
   clear hK K hNEW
   rw [← hU3]
   clear hU3 r0 f0 r1 f1 r2 f2 r3 f3 r4 f4 r5 f5 r6 f6 r7 f7 r8 f8
   refine wpAnyH_done (by kernel_rfl) ?_ _
   go_wp2
   go_meet
   case rel => exact ⟨_, rfl, HNG.out.2.2.2, HC3, HB3, HR3, HS3, HNG⟩
 case rest =>
 obtain ⟨g, rfl, hg, HC, HB, HR, HS, HNG⟩ := hcut
 clear HS1 HBb1 HRb1 HSD HBD HRD HRS
 have HGL : Hid (g < wc.heap.size) := hi_ HC.out.lt
 go_upto_block 0 with fail
 go_cut [] from 43 to 80 (fun wr => ∃ (o : OpD) (s : PS), Hid (RO = (o.bare, s)) ∧ Hid (Blk wr g 39 (opCells o)) ∧ Hid (OpLies wr o (g + 1)) ∧ Hid (Blk wr w.heap.size 120 #[pR r]) ∧ Hid (Blk wr (w.heap.size + 1) 39 #[.int .i64 0, .int .i64 0, .int .i64 0, .slice none 0 0, .int .i64 0, .int .i64 0, .slice none 0 0, .int .i64 0, .slice none 0 0]) ∧ Hid (OSt W w wr r s))
 case first =>
  have HK4 : (kindW tx = 1 ∧ KI = 1) ∨ (kindW tx = 2 ∧ KI = 2) ∨ (kindW tx = 3 ∧ KI = 3) ∨ (kindW tx = 4 ∧ KI = 4) := by
   have h1 := HK.out
   have h2 := HKN.out
   rcases kindW_five tx with h | h | h | h | h
   · exact absurd h h2
   · exact .inl ⟨h, by rw [h1, h]; rfl⟩
   · exact .inr (.inl ⟨h, by rw [h1, h]; rfl⟩)
   · exact .inr (.inr (.inl ⟨h, by rw [h1, h]; rfl⟩))
   · exact .inr (.inr (.inr ⟨h, by rw [h1, h]; rfl⟩))
  rcases HK4 with ⟨hk, rfl⟩ | ⟨hk, rfl⟩ | ⟨hk, rfl⟩ | ⟨hk, rfl⟩
  ·
   have HRO := hi_ (HOA.out.trans ((if_neg (by rw [hk]; decide)).trans (if_pos hk)))
   clear hk HOA
   have HGB : Hid (r.gR < wc.heap.size ∧ r.gA < wc.heap.size) := hi_ (by have := HS.out.lt; omega)
   have cB := HB.out.cell 0
   go_wp2_with fail
   refine (okeys HE.out HS.out.refl).mono ?_
   rintro e x1 ⟨A1, c1, rfl, ho1, h1⟩
   replace HS := hi_ (HS.out.then h1)
   replace HC := hi_ (h1.gr.blk HC.out HNG.out.1 HNG.out.2.1)
   replace HB := hi_ (h1.gr.blk HB.out HNB.out.1 HNB.out.2.1)
   replace HR := hi_ (h1.gr.blk HR.out HNB.out.2.2.1 HNB.out.2.2.2)
   have HO := hi_ ho1
   clear h1 ho1 cB
   generalize keysA r.x.l (r.x.l.length + 2) [] s2 = q at *
   obtain ⟨ks, s3⟩ := q
   simp only at HS HRO HO ⊢
   have rj : x1.cell? ⟨g, 3, none⟩ = some (.slice none 0 0) := HC.out.cell 3
   have fj : x1.frozen? ⟨g, 3, none⟩ = false := HC.out.frozen 3
   go_upto_region 11 with fail
   obtain ⟨Zx1, hZx1⟩ : ∃ Z, Z = x1.setCell ⟨g, 3, none⟩ (.slice A1 ks.length c1) := ⟨_, rfl⟩
   rw [← hZx1]
   replace HC := hi_ (HC.out.set_ 3 (.slice A1 ks.length c1))
   replace HB := hi_ (HB.out.far (p := ⟨g, 3, none⟩) (by have := HNG.out; simp; omega) (.slice A1 ks.length c1))
   replace HR := hi_ (HR.out.far (p := ⟨g, 3, none⟩) (by have := HNG.out; simp; omega) (.slice A1 ks.length c1))
   replace HS := hi_ (HS.out.set (k := g) (by have := HNG.out; omega) (by have := HNG.out; have := HBW.out; omega) HNG.out.1 HNG.out.2.1 HNG.out.2.2.1 3 (.slice A1 ks.length c1))
   replace HO := hi_ (own_setO HO.out (p := ⟨g, 3, none⟩) (fun e => by have t1 : wc.heap.size ≤ g := (own_ltO HO.out _ e).1; have := HGL.out; omega) (.slice A1 ks.length c1))
   rw [← hZx1] at HC HB HR HS HO
   clear hZx1 rj fj
   have cB := HB.out.cell 0
   have HT4 := hi_ (otake HE.out HS.out.refl (s := s3) 1 (by decide) ⟨#[112, 114, 105, 111, 114, 105, 116, 121]⟩)
   rw [show (⟨#[112, 114, 105, 111, 114, 105, 116, 121]⟩ : ByteArray).data.toList = wPrio from rfl] at HT4
   have HSA : Hid ((takeA r.x.l 1 wPrio s3).2 = stepA r.x.l 1 wPrio s3) := hi_ rfl
   go_wp2_with fail
   refine HT4.out.mono ?_
   rintro e x2 ⟨rfl, h2⟩
   replace HS := hi_ (HS.out.then h2)
   replace HC := hi_ (h2.gr.blk HC.out HNG.out.1 HNG.out.2.1)
   replace HB := hi_ (h2.gr.blk HB.out HNB.out.1 HNB.out.2.1)
   replace HR := hi_ (h2.gr.blk HR.out HNB.out.2.2.1 HNB.out.2.2.2)
   replace HO := hi_ (ownsRow_gro HO.out h2.gr HGB.out.1 HGB.out.2)
   clear h2 cB HT4
   rw [HSA.out] at HS
   generalize stepA r.x.l 1 wPrio s3 = s4 at *
   clear HSA
   have cB := HB.out.cell 0
   have hle := num_le HE.out.ok s4
   go_wp2_with fail
   refine (onumber HE.out HS.out.refl).mono ?_
   rintro e x3 ⟨rfl, hx3⟩
   replace HS := hi_ (HS.out.then hx3)
   replace HC := hi_ (hx3.gr.blk HC.out HNG.out.1 HNG.out.2.1)
   replace HB := hi_ (hx3.gr.blk HB.out HNB.out.1 HNB.out.2.1)
   replace HR := hi_ (hx3.gr.blk HR.out HNB.out.2.2.1 HNB.out.2.2.2)
   replace HO := hi_ (ownsRow_gro HO.out hx3.gr HGB.out.1 HGB.out.2)
   clear hx3 cB
   generalize numA r.x.l s4 = q at *
   obtain ⟨v1, s5⟩ := q
   simp only at HS HRO hle ⊢
   have hwv : IntKind.i64.wrap ((v1 : Nat) : Int) = v1 := IntWalk.i64_in _ (by omega)
   have rj : x3.cell? ⟨g, 4, none⟩ = some (.int .i64 0) := HC.out.cell 4
   have fj : x3.frozen? ⟨g, 4, none⟩ = false := HC.out.frozen 4
   go_upto_region 13 with fail
   obtain ⟨Zx3, hZx3⟩ : ∃ Z, Z = x3.setCell ⟨g, 4, none⟩ (.int .i64 v1) := ⟨_, rfl⟩
   rw [← hZx3]
   replace HC := hi_ (HC.out.set_ 4 (.int .i64 v1))
   replace HB := hi_ (HB.out.far (p := ⟨g, 4, none⟩) (by have := HNG.out; simp; omega) (.int .i64 v1))
   replace HR := hi_ (HR.out.far (p := ⟨g, 4, none⟩) (by have := HNG.out; simp; omega) (.int .i64 v1))
   replace HS := hi_ (HS.out.set (k := g) (by have := HNG.out; omega) (by have := HNG.out; have := HBW.out; omega) HNG.out.1 HNG.out.2.1 HNG.out.2.2.1 4 (.int .i64 v1))
   replace HO := hi_ (own_setO HO.out (p := ⟨g, 4, none⟩) (fun e => by have t1 : wc.heap.size ≤ g := (own_ltO HO.out _ e).1; have := HGL.out; omega) (.int .i64 v1))
   rw [← hZx3] at HC HB HR HS HO
   clear hZx3 rj fj
   have cB := HB.out.cell 0
   have HZ0 := hi_ HC.out.lt
   go_wp2_with fail
   refine (orcall HE.out HS.out.refl HNM.out.1).mono ?_
   rintro e x4 ⟨A5, c5, rfl, hl5, ha5, hx4⟩
   replace HS := hi_ (HS.out.then hx4)
   replace HC := hi_ (hx4.gr.blk HC.out HNG.out.1 HNG.out.2.1)
   replace HB := hi_ (hx4.gr.blk HB.out HNB.out.1 HNB.out.2.1)
   replace HR := hi_ (hx4.gr.blk HR.out HNB.out.2.2.1 HNB.out.2.2.2)
   replace HO := hi_ (ownsRow_gro HO.out hx4.gr HGB.out.1 HGB.out.2)
   have HA5 : Hid (Abv (g + 1) A5) := hi_ (fun ad e => by have := ha5 ad e; have := HZ0.out; omega)
   have HL5 := hi_ hl5
   clear hx4 cB hl5 ha5 HZ0
   generalize callA r.p r.x.l s5 = q at *
   obtain ⟨⟨R5, L5⟩, s9⟩ := q
   simp only at HS HRO HL5 ⊢
   have rj : x4.cell? ⟨g, 5, none⟩ = some (.int .i64 0) := HC.out.cell 5
   have fj : x4.frozen? ⟨g, 5, none⟩ = false := HC.out.frozen 5
   have rk : x4.cell? ⟨g, 6, none⟩ = some (.slice none 0 0) := HC.out.cell 6
   have fk : x4.frozen? ⟨g, 6, none⟩ = false := HC.out.frozen 6
   have HC9 : Hid (Blk (((x4.setCell ⟨g, 5, none⟩ (.int .i64 R5)).setCell ⟨g, 6, none⟩ (.slice A5 L5.length c5))) g 39 (opCells ⟨1, R1, 0, ⟨ks, A1, c1⟩, v1, R5, ⟨L5, A5, c5⟩, 0, ⟨[], none, 0⟩⟩)) := hi_ ((HC.out.set_ 5 (.int .i64 R5)).set_ 6 (.slice A5 L5.length c5))
   have HB9 := hi_ ((HB.out.far (p := ⟨g, 5, none⟩) (by have := HNG.out; simp; omega) (.int .i64 R5)).far (p := ⟨g, 6, none⟩) (by have := HNG.out; simp; omega) (.slice A5 L5.length c5))
   have HR9 := hi_ ((HR.out.far (p := ⟨g, 5, none⟩) (by have := HNG.out; simp; omega) (.int .i64 R5)).far (p := ⟨g, 6, none⟩) (by have := HNG.out; simp; omega) (.slice A5 L5.length c5))
   have HS9 := hi_ ((HS.out.set (k := g) (by have := HNG.out; omega) (by have := HNG.out; have := HBW.out; omega) HNG.out.1 HNG.out.2.1 HNG.out.2.2.1 5 (.int .i64 R5)).set (k := g) (by have := HNG.out; omega) (by have := HNG.out; have := HBW.out; omega) HNG.out.1 HNG.out.2.1 HNG.out.2.2.1 6 (.slice A5 L5.length c5))
   have HL9 := hi_ ((HL5.out.farO (b := g) (j := 5) (v := .int .i64 R5) (fun ad e => by have := HA5.out ad e; omega)).farO (b := g) (j := 6) (v := .slice A5 L5.length c5) (fun ad e => by have := HA5.out ad e; omega))
   have HK9 := hi_ (keys_lok (own_setO (own_setO HO.out (p := ⟨g, 5, none⟩) (fun e => by have t1 : wc.heap.size ≤ g := (own_ltO HO.out _ e).1; have := HGL.out; omega) (.int .i64 R5)) (p := ⟨g, 6, none⟩) (fun e => by have t1 : wc.heap.size ≤ g := (own_ltO HO.out _ e).1; have := HGL.out; omega) (.slice A5 L5.length c5)) (B := g + 1) (by have := HGL.out; omega))
   go_wp2
   go_meet
   case rel => exact ⟨⟨1, R1, 0, ⟨ks, A1, c1⟩, v1, R5, ⟨L5, A5, c5⟩, 0, ⟨[], none, 0⟩⟩, s9, HRO, HC9, hi_ ⟨⟨HK9.out.1, HL9.out, nilLO _ _ _⟩, HK9.out.2, HA5.out, Abv.nil _⟩, HB9, HR9, HS9⟩
  ·
   have HRO := hi_ (HOA.out.trans ((if_neg (by rw [hk]; decide)).trans ((if_neg (by rw [hk]; decide)).trans (if_pos hk))))
   clear hk HOA
   have cB := HB.out.cell 0
   have hle := num_le HE.out.ok s2
   go_wp2_with fail
   refine (onumber HE.out HS.out.refl).mono ?_
   rintro e x3 ⟨rfl, hx3⟩
   replace HS := hi_ (HS.out.then hx3)
   replace HC := hi_ (hx3.gr.blk HC.out HNG.out.1 HNG.out.2.1)
   replace HB := hi_ (hx3.gr.blk HB.out HNB.out.1 HNB.out.2.1)
   replace HR := hi_ (hx3.gr.blk HR.out HNB.out.2.2.1 HNB.out.2.2.2)
   clear hx3 cB
   generalize numA r.x.l s2 = q at *
   obtain ⟨v1, s5⟩ := q
   simp only at HS HRO hle ⊢
   have hwv : IntKind.i64.wrap ((v1 : Nat) : Int) = v1 := IntWalk.i64_in _ (by omega)
   have rj : x3.cell? ⟨g, 2, none⟩ = some (.int .i64 0) := HC.out.cell 2
   have fj : x3.frozen? ⟨g, 2, none⟩ = false := HC.out.frozen 2
   go_upto_region 16 with fail
   obtain ⟨Zx3, hZx3⟩ : ∃ Z, Z = x3.setCell ⟨g, 2, none⟩ (.int .i64 v1) := ⟨_, rfl⟩
   rw [← hZx3]
   replace HC := hi_ (HC.out.set_ 2 (.int .i64 v1))
   replace HB := hi_ (HB.out.far (p := ⟨g, 2, none⟩) (by have := HNG.out; simp; omega) (.int .i64 v1))
   replace HR := hi_ (HR.out.far (p := ⟨g, 2, none⟩) (by have := HNG.out; simp; omega) (.int .i64 v1))
   replace HS := hi_ (HS.out.set (k := g) (by have := HNG.out; omega) (by have := HNG.out; have := HBW.out; omega) HNG.out.1 HNG.out.2.1 HNG.out.2.2.1 2 (.int .i64 v1))
   rw [← hZx3] at HC HB HR HS
   clear hZx3 rj fj
   have cB := HB.out.cell 0
   have HZ0 := hi_ HC.out.lt
   go_wp2_with fail
   refine (orcall HE.out HS.out.refl HNM.out.1).mono ?_
   rintro e x4 ⟨A5, c5, rfl, hl5, ha5, hx4⟩
   replace HS := hi_ (HS.out.then hx4)
   replace HC := hi_ (hx4.gr.blk HC.out HNG.out.1 HNG.out.2.1)
   replace HB := hi_ (hx4.gr.blk HB.out HNB.out.1 HNB.out.2.1)
   replace HR := hi_ (hx4.gr.blk HR.out HNB.out.2.2.1 HNB.out.2.2.2)
   have HA5 : Hid (Abv (g + 1) A5) := hi_ (fun ad e => by have := ha5 ad e; have := HZ0.out; omega)
   have HL5 := hi_ hl5
   clear hx4 cB hl5 ha5 HZ0
   generalize callA r.p r.x.l s5 = q at *
   obtain ⟨⟨R5, L5⟩, s9⟩ := q
   simp only at HS HRO HL5 ⊢
   have rj : x4.cell? ⟨g, 7, none⟩ = some (.int .i64 0) := HC.out.cell 7
   have fj : x4.frozen? ⟨g, 7, none⟩ = false := HC.out.frozen 7
   have rk : x4.cell? ⟨g, 8, none⟩ = some (.slice none 0 0) := HC.out.cell 8
   have fk : x4.frozen? ⟨g, 8, none⟩ = false := HC.out.frozen 8
   have HC9 : Hid (Blk (((x4.setCell ⟨g, 7, none⟩ (.int .i64 R5)).setCell ⟨g, 8, none⟩ (.slice A5 L5.length c5))) g 39 (opCells ⟨2, R1, v1, ⟨[], none, 0⟩, 0, 0, ⟨[], none, 0⟩, R5, ⟨L5, A5, c5⟩⟩)) := hi_ ((HC.out.set_ 7 (.int .i64 R5)).set_ 8 (.slice A5 L5.length c5))
   have HB9 := hi_ ((HB.out.far (p := ⟨g, 7, none⟩) (by have := HNG.out; simp; omega) (.int .i64 R5)).far (p := ⟨g, 8, none⟩) (by have := HNG.out; simp; omega) (.slice A5 L5.length c5))
   have HR9 := hi_ ((HR.out.far (p := ⟨g, 7, none⟩) (by have := HNG.out; simp; omega) (.int .i64 R5)).far (p := ⟨g, 8, none⟩) (by have := HNG.out; simp; omega) (.slice A5 L5.length c5))
   have HS9 := hi_ ((HS.out.set (k := g) (by have := HNG.out; omega) (by have := HNG.out; have := HBW.out; omega) HNG.out.1 HNG.out.2.1 HNG.out.2.2.1 7 (.int .i64 R5)).set (k := g) (by have := HNG.out; omega) (by have := HNG.out; have := HBW.out; omega) HNG.out.1 HNG.out.2.1 HNG.out.2.2.1 8 (.slice A5 L5.length c5))
   have HL9 := hi_ ((HL5.out.farO (b := g) (j := 7) (v := .int .i64 R5) (fun ad e => by have := HA5.out ad e; omega)).farO (b := g) (j := 8) (v := .slice A5 L5.length c5) (fun ad e => by have := HA5.out ad e; omega))
   go_wp2
   go_meet
   case rel => exact ⟨⟨2, R1, v1, ⟨[], none, 0⟩, 0, 0, ⟨[], none, 0⟩, R5, ⟨L5, A5, c5⟩⟩, s9, HRO, HC9, hi_ ⟨⟨nilLO _ _ _, nilLO _ _ _, HL9.out⟩, Abv.nil _, Abv.nil _, HA5.out⟩, HB9, HR9, HS9⟩
  ·
   have HRO := hi_ (HOA.out.trans ((if_neg (by rw [hk]; decide)).trans ((if_neg (by rw [hk]; decide)).trans ((if_neg (by rw [hk]; decide)).trans (if_pos hk)))))
   clear hk HOA
   have cB := HB.out.cell 0
   have hle := num_le HE.out.ok s2
   go_wp2_with fail
   refine (onumber HE.out HS.out.refl).mono ?_
   rintro e x3 ⟨rfl, hx3⟩
   replace HS := hi_ (HS.out.then hx3)
   replace HC := hi_ (hx3.gr.blk HC.out HNG.out.1 HNG.out.2.1)
   replace HB := hi_ (hx3.gr.blk HB.out HNB.out.1 HNB.out.2.1)
   replace HR := hi_ (hx3.gr.blk HR.out HNB.out.2.2.1 HNB.out.2.2.2)
   clear hx3 cB
   generalize numA r.x.l s2 = q at *
   obtain ⟨v1, s5⟩ := q
   simp only at HS HRO hle ⊢
   have hwv : IntKind.i64.wrap ((v1 : Nat) : Int) = v1 := IntWalk.i64_in _ (by omega)
   have rj : x3.cell? ⟨g, 2, none⟩ = some (.int .i64 0) := HC.out.cell 2
   have fj : x3.frozen? ⟨g, 2, none⟩ = false := HC.out.frozen 2
   go_wp2
   go_meet
   case rel => exact ⟨⟨3, R1, v1, ⟨[], none, 0⟩, 0, 0, ⟨[], none, 0⟩, 0, ⟨[], none, 0⟩⟩, s5, HRO, hi_ (HC.out.set_ 2 (.int .i64 v1)), hi_ ⟨⟨nilLO _ _ _, nilLO _ _ _, nilLO _ _ _⟩, Abv.nil _, Abv.nil _, Abv.nil _⟩, hi_ (HB.out.far (p := ⟨g, 2, none⟩) (by have := HNG.out; simp; omega) _), hi_ (HR.out.far (p := ⟨g, 2, none⟩) (by have := HNG.out; simp; omega) _), hi_ (HS.out.set (k := g) (by have := HNG.out; omega) (by have := HNG.out; have := HBW.out; omega) HNG.out.1 HNG.out.2.1 HNG.out.2.2.1 2 _)⟩
  ·
   have HRO := hi_ (HOA.out.trans ((if_neg (by rw [hk]; decide)).trans ((if_neg (by rw [hk]; decide)).trans ((if_neg (by rw [hk]; decide)).trans ((if_neg (by rw [hk]; decide)).trans (rfl))))))
   clear hk HOA
   have cB := HB.out.cell 0
   have HZ0 := hi_ HC.out.lt
   go_wp2_with fail
   refine (orcall HE.out HS.out.refl HNM.out.1).mono ?_
   rintro e x4 ⟨A5, c5, rfl, hl5, ha5, hx4⟩
   replace HS := hi_ (HS.out.then hx4)
   replace HC := hi_ (hx4.gr.blk HC.out HNG.out.1 HNG.out.2.1)
   replace HB := hi_ (hx4.gr.blk HB.out HNB.out.1 HNB.out.2.1)
   replace HR := hi_ (hx4.gr.blk HR.out HNB.out.2.2.1 HNB.out.2.2.2)
   have HA5 : Hid (Abv (g + 1) A5) := hi_ (fun ad e => by have := ha5 ad e; have := HZ0.out; omega)
   have HL5 := hi_ hl5
   clear hx4 cB hl5 ha5 HZ0
   generalize callA r.p r.x.l s2 = q at *
   obtain ⟨⟨R5, L5⟩, s9⟩ := q
   simp only at HS HRO HL5 ⊢
   have rj : x4.cell? ⟨g, 7, none⟩ = some (.int .i64 0) := HC.out.cell 7
   have fj : x4.frozen? ⟨g, 7, none⟩ = false := HC.out.frozen 7
   have rk : x4.cell? ⟨g, 8, none⟩ = some (.slice none 0 0) := HC.out.cell 8
   have fk : x4.frozen? ⟨g, 8, none⟩ = false := HC.out.frozen 8
   have HC9 : Hid (Blk (((x4.setCell ⟨g, 7, none⟩ (.int .i64 R5)).setCell ⟨g, 8, none⟩ (.slice A5 L5.length c5))) g 39 (opCells ⟨4, R1, 0, ⟨[], none, 0⟩, 0, 0, ⟨[], none, 0⟩, R5, ⟨L5, A5, c5⟩⟩)) := hi_ ((HC.out.set_ 7 (.int .i64 R5)).set_ 8 (.slice A5 L5.length c5))
   have HB9 := hi_ ((HB.out.far (p := ⟨g, 7, none⟩) (by have := HNG.out; simp; omega) (.int .i64 R5)).far (p := ⟨g, 8, none⟩) (by have := HNG.out; simp; omega) (.slice A5 L5.length c5))
   have HR9 := hi_ ((HR.out.far (p := ⟨g, 7, none⟩) (by have := HNG.out; simp; omega) (.int .i64 R5)).far (p := ⟨g, 8, none⟩) (by have := HNG.out; simp; omega) (.slice A5 L5.length c5))
   have HS9 := hi_ ((HS.out.set (k := g) (by have := HNG.out; omega) (by have := HNG.out; have := HBW.out; omega) HNG.out.1 HNG.out.2.1 HNG.out.2.2.1 7 (.int .i64 R5)).set (k := g) (by have := HNG.out; omega) (by have := HNG.out; have := HBW.out; omega) HNG.out.1 HNG.out.2.1 HNG.out.2.2.1 8 (.slice A5 L5.length c5))
   have HL9 := hi_ ((HL5.out.farO (b := g) (j := 7) (v := .int .i64 R5) (fun ad e => by have := HA5.out ad e; omega)).farO (b := g) (j := 8) (v := .slice A5 L5.length c5) (fun ad e => by have := HA5.out ad e; omega))
   go_wp2
   go_meet
   case rel => exact ⟨⟨4, R1, 0, ⟨[], none, 0⟩, 0, 0, ⟨[], none, 0⟩, R5, ⟨L5, A5, c5⟩⟩, s9, HRO, HC9, hi_ ⟨⟨nilLO _ _ _, nilLO _ _ _, HL9.out⟩, Abv.nil _, Abv.nil _, HA5.out⟩, HB9, HR9, HS9⟩
 case rest =>
 obtain ⟨o, s, HRO, HC, HL, HB, HR, HS⟩ := hcut
 clear HOA HK HKN
 obtain ⟨kd, tb, id, ⟨kl, kA, kc⟩, pr, ea, ⟨el, eA, ec⟩, ca, ⟨cl, cA, cc⟩⟩ := o
 have cB : wc.cell? ⟨w.heap.size, 0, none⟩ = some (pR r) := HB.out.cell 0
 cases s with
 | bad e =>
  obtain ⟨bR, he⟩ := HS.out.badc
  have c11 : wc.cell? ⟨r.gR, 11, none⟩ = some (.int .i64 e) := bR.cell 11
  have he' : ((e : Int) == 0) = false := bf_ (by omega)
  clear bR he
  have d0 : wc.cell? ⟨g, 0, none⟩ = some (.int .i64 kd) := HC.out.cell 0
  have q0 : wc.cell? ⟨w.heap.size + 1, 0, none⟩ = some (.int .i64 0) := HR.out.cell 0
  have g0 : wc.frozen? ⟨w.heap.size + 1, 0, none⟩ = false := HR.out.frozen 0
  have d1 : wc.cell? ⟨g, 1, none⟩ = some (.int .i64 tb) := HC.out.cell 1
  have q1 : wc.cell? ⟨w.heap.size + 1, 1, none⟩ = some (.int .i64 0) := HR.out.cell 1
  have g1 : wc.frozen? ⟨w.heap.size + 1, 1, none⟩ = false := HR.out.frozen 1
  have d2 : wc.cell? ⟨g, 2, none⟩ = some (.int .i64 id) := HC.out.cell 2
  have q2 : wc.cell? ⟨w.heap.size + 1, 2, none⟩ = some (.int .i64 0) := HR.out.cell 2
  have g2 : wc.frozen? ⟨w.heap.size + 1, 2, none⟩ = false := HR.out.frozen 2
  have d3 : wc.cell? ⟨g, 3, none⟩ = some (.slice kA kl.length kc) := HC.out.cell 3
  have q3 : wc.cell? ⟨w.heap.size + 1, 3, none⟩ = some (.slice none 0 0) := HR.out.cell 3
  have g3 : wc.frozen? ⟨w.heap.size + 1, 3, none⟩ = false := HR.out.frozen 3
  have d4 : wc.cell? ⟨g, 4, none⟩ = some (.int .i64 pr) := HC.out.cell 4
  have q4 : wc.cell? ⟨w.heap.size + 1, 4, none⟩ = some (.int .i64 0) := HR.out.cell 4
  have g4 : wc.frozen? ⟨w.heap.size + 1, 4, none⟩ = false := HR.out.frozen 4
  have d5 : wc.cell? ⟨g, 5, none⟩ = some (.int .i64 ea) := HC.out.cell 5
  have q5 : wc.cell? ⟨w.heap.size + 1, 5, none⟩ = some (.int .i64 0) := HR.out.cell 5
  have g5 : wc.frozen? ⟨w.heap.size + 1, 5, none⟩ = false := HR.out.frozen 5
  have d6 : wc.cell? ⟨g, 6, none⟩ = some (.slice eA el.length ec) := HC.out.cell 6
  have q6 : wc.cell? ⟨w.heap.size + 1, 6, none⟩ = some (.slice none 0 0) := HR.out.cell 6
  have g6 : wc.frozen? ⟨w.heap.size + 1, 6, none⟩ = false := HR.out.frozen 6
  have d7 : wc.cell? ⟨g, 7, none⟩ = some (.int .i64 ca) := HC.out.cell 7
  have q7 : wc.cell? ⟨w.heap.size + 1, 7, none⟩ = some (.int .i64 0) := HR.out.cell 7
  have g7 : wc.frozen? ⟨w.heap.size + 1, 7, none⟩ = false := HR.out.frozen 7
  have d8 : wc.cell? ⟨g, 8, none⟩ = some (.slice cA cl.length cc) := HC.out.cell 8
  have q8 : wc.cell? ⟨w.heap.size + 1, 8, none⟩ = some (.slice none 0 0) := HR.out.cell 8
  have g8 : wc.frozen? ⟨w.heap.size + 1, 8, none⟩ = false := HR.out.frozen 8
  go_wp2
  refine bodyPost_ret (v := .agg (opCells ⟨kd, tb, id, ⟨kl, kA, kc⟩, pr, ea, ⟨el, eA, ec⟩, ca, ⟨cl, cA, cc⟩⟩)) ?_ rfl ?_
  · exact results_cell_row (fn := Tryz.f62) (p := 2) (ty := 39) rfl _ _ (w.heap.size + 1) 39 (opCells ⟨kd, tb, id, ⟨kl, kA, kc⟩, pr, ea, ⟨el, eA, ec⟩, ca, ⟨cl, cA, cc⟩⟩) (0, 0) _ rfl (put9O HR.out _ _ _ _ _ _ _ _ _) Tryz.underlying39 rfl (by kernel_rfl)
  · exact oper_end (o := ⟨kd, tb, id, ⟨kl, kA, kc⟩, pr, ea, ⟨el, eA, ec⟩, ca, ⟨cl, cA, cc⟩⟩) (s := .bad e) (B := g + 1) (by rw [HRO.out]; rfl) HS.out HL.out (by have := HNG.out; omega) (by have := HBW.out; omega) HNG2.out _ _ _ _ _ _ _ _ _
 | ok i =>
  obtain ⟨bR, bA, hi1⟩ := HS.out.okc
  have c11 : wc.cell? ⟨r.gR, 11, none⟩ = some (.int .i64 0) := bR.cell 11
  have c9 : wc.cell? ⟨r.gR, 9, none⟩ = some (nextF r) := bR.cell 9
  unfold nextF at c9
  have HN := hi_ (onext_any r.x i r.gA r.gL wc (HE.out.toks.below HS.out.base (Nat.le_refl _)) bA HS.out.lb)
  clear bR bA hi1
  by_cases hlt : i < r.x.l.length
  ·
   have hk0 : (nxt r.x.l i).kind ≠ 0 := by
    rw [nxt_in hlt]
    have := (HE.out.ok _ (List.getElem_mem hlt)).kind
    omega
   have hkk : (((nxt r.x.l i).kind : Int) != 0) = true := bne_iff_ne.2 (by omega)
   have HEN : Hid (endA r.x.l (.ok i) = .bad 5) := hi_ (if_pos hlt)
   clear hk0 hlt
   generalize nxt r.x.l i = t at *
   obtain ⟨tk, tx, tv, tl⟩ := t
   simp only at hkk HN
   have hfk := tk_kindO (.int .i64 tk) (.string ⟨tx.toArray⟩) (.int .u32 tv) (.int .i64 tl)
   go_wp2_with fail
   refine HN.out.mono ?_
   rintro e1 x3 ⟨rfl, hb3⟩
   replace HS := hi_ (HS.out.below hb3)
   replace HC := hi_ (HC.out.below hb3 HC.out.lt)
   replace HB := hi_ (HB.out.below hb3 HB.out.lt)
   replace HR := hi_ (HR.out.below hb3 HR.out.lt)
   replace HL := hi_ (HL.out.below hb3)
   clear hb3 HN c9 c11 cB
   obtain ⟨bR, _⟩ := HS.out.okc
   have c11 : x3.cell? ⟨r.gR, 11, none⟩ = some (.int .i64 0) := bR.cell 11
   have f11 : x3.frozen? ⟨r.gR, 11, none⟩ = false := bR.frozen 11
   have cB : x3.cell? ⟨w.heap.size, 0, none⟩ = some (pR r) := HB.out.cell 0
   clear bR
   go_upto_region 23 with fail
   obtain ⟨X, hX⟩ : ∃ X, X = x3.setCell ⟨r.gR, 11, none⟩ (.int .i64 5) := ⟨_, rfl⟩
   replace HS : Hid (OSt W w X r (.bad 5)) := hi_ (by rw [hX]; exact HS.out.err HE.out (x := 5) (by decide))
   replace HC : Hid (Blk X g 39 _) := hi_ (by rw [hX]; exact HC.out.far HNG.out.1 _)
   replace HR : Hid (Blk X (w.heap.size + 1) 39 _) := hi_ (by rw [hX]; exact HR.out.far HNG2.out.1 _)
   replace HL : Hid (OpLies X _ (g + 1)) := hi_ (by rw [hX]; exact HL.out.set (by have := HLT.out; have := HNG.out; omega))
   rw [← hX]
   clear hX c11 f11 cB
   have d0 : X.cell? ⟨g, 0, none⟩ = some (.int .i64 kd) := HC.out.cell 0
   have q0 : X.cell? ⟨w.heap.size + 1, 0, none⟩ = some (.int .i64 0) := HR.out.cell 0
   have g0 : X.frozen? ⟨w.heap.size + 1, 0, none⟩ = false := HR.out.frozen 0
   have d1 : X.cell? ⟨g, 1, none⟩ = some (.int .i64 tb) := HC.out.cell 1
   have q1 : X.cell? ⟨w.heap.size + 1, 1, none⟩ = some (.int .i64 0) := HR.out.cell 1
   have g1 : X.frozen? ⟨w.heap.size + 1, 1, none⟩ = false := HR.out.frozen 1
   have d2 : X.cell? ⟨g, 2, none⟩ = some (.int .i64 id) := HC.out.cell 2
   have q2 : X.cell? ⟨w.heap.size + 1, 2, none⟩ = some (.int .i64 0) := HR.out.cell 2
   have g2 : X.frozen? ⟨w.heap.size + 1, 2, none⟩ = false := HR.out.frozen 2
   have d3 : X.cell? ⟨g, 3, none⟩ = some (.slice kA kl.length kc) := HC.out.cell 3
   have q3 : X.cell? ⟨w.heap.size + 1, 3, none⟩ = some (.slice none 0 0) := HR.out.cell 3
   have g3 : X.frozen? ⟨w.heap.size + 1, 3, none⟩ = false := HR.out.frozen 3
   have d4 : X.cell? ⟨g, 4, none⟩ = some (.int .i64 pr) := HC.out.cell 4
   have q4 : X.cell? ⟨w.heap.size + 1, 4, none⟩ = some (.int .i64 0) := HR.out.cell 4
   have g4 : X.frozen? ⟨w.heap.size + 1, 4, none⟩ = false := HR.out.frozen 4
   have d5 : X.cell? ⟨g, 5, none⟩ = some (.int .i64 ea) := HC.out.cell 5
   have q5 : X.cell? ⟨w.heap.size + 1, 5, none⟩ = some (.int .i64 0) := HR.out.cell 5
   have g5 : X.frozen? ⟨w.heap.size + 1, 5, none⟩ = false := HR.out.frozen 5
   have d6 : X.cell? ⟨g, 6, none⟩ = some (.slice eA el.length ec) := HC.out.cell 6
   have q6 : X.cell? ⟨w.heap.size + 1, 6, none⟩ = some (.slice none 0 0) := HR.out.cell 6
   have g6 : X.frozen? ⟨w.heap.size + 1, 6, none⟩ = false := HR.out.frozen 6
   have d7 : X.cell? ⟨g, 7, none⟩ = some (.int .i64 ca) := HC.out.cell 7
   have q7 : X.cell? ⟨w.heap.size + 1, 7, none⟩ = some (.int .i64 0) := HR.out.cell 7
   have g7 : X.frozen? ⟨w.heap.size + 1, 7, none⟩ = false := HR.out.frozen 7
   have d8 : X.cell? ⟨g, 8, none⟩ = some (.slice cA cl.length cc) := HC.out.cell 8
   have q8 : X.cell? ⟨w.heap.size + 1, 8, none⟩ = some (.slice none 0 0) := HR.out.cell 8
   have g8 : X.frozen? ⟨w.heap.size + 1, 8, none⟩ = false := HR.out.frozen 8
   go_wp2
   refine bodyPost_ret (v := .agg (opCells ⟨kd, tb, id, ⟨kl, kA, kc⟩, pr, ea, ⟨el, eA, ec⟩, ca, ⟨cl, cA, cc⟩⟩)) ?_ rfl ?_
   · exact results_cell_row (fn := Tryz.f62) (p := 2) (ty := 39) rfl _ _ (w.heap.size + 1) 39 (opCells ⟨kd, tb, id, ⟨kl, kA, kc⟩, pr, ea, ⟨el, eA, ec⟩, ca, ⟨cl, cA, cc⟩⟩) (0, 0) _ rfl (put9O HR.out _ _ _ _ _ _ _ _ _) Tryz.underlying39 rfl (by kernel_rfl)
   · exact oper_end (o := ⟨kd, tb, id, ⟨kl, kA, kc⟩, pr, ea, ⟨el, eA, ec⟩, ca, ⟨cl, cA, cc⟩⟩) (s := .bad 5) (B := g + 1) (by rw [HRO.out]; simp only; rw [HEN.out]) HS.out HL.out (by have := HNG.out; omega) (by have := HBW.out; omega) HNG2.out _ _ _ _ _ _ _ _ _
  ·
   have HEN : Hid (endA r.x.l (.ok i) = .ok i) := hi_ (if_neg hlt)
   have hkz : (nxt r.x.l i).kind = 0 := by rw [nxt_out (by omega)]; rfl
   have hkk : (((nxt r.x.l i).kind : Int) != 0) = false := by rw [hkz]; rfl
   clear hkz hlt
   generalize nxt r.x.l i = t at *
   obtain ⟨tk, tx, tv, tl⟩ := t
   simp only at hkk HN
   have hfk := tk_kindO (.int .i64 tk) (.string ⟨tx.toArray⟩) (.int .u32 tv) (.int .i64 tl)
   go_wp2_with fail
   refine HN.out.mono ?_
   rintro e1 x3 ⟨rfl, hb3⟩
   replace HS := hi_ (HS.out.below hb3)
   replace HC := hi_ (HC.out.below hb3 HC.out.lt)
   replace HB := hi_ (HB.out.below hb3 HB.out.lt)
   replace HR := hi_ (HR.out.below hb3 HR.out.lt)
   replace HL := hi_ (HL.out.below hb3)
   clear hb3 HN c9 c11 cB
   have d0 : x3.cell? ⟨g, 0, none⟩ = some (.int .i64 kd) := HC.out.cell 0
   have q0 : x3.cell? ⟨w.heap.size + 1, 0, none⟩ = some (.int .i64 0) := HR.out.cell 0
   have g0 : x3.frozen? ⟨w.heap.size + 1, 0, none⟩ = false := HR.out.frozen 0
   have d1 : x3.cell? ⟨g, 1, none⟩ = some (.int .i64 tb) := HC.out.cell 1
   have q1 : x3.cell? ⟨w.heap.size + 1, 1, none⟩ = some (.int .i64 0) := HR.out.cell 1
   have g1 : x3.frozen? ⟨w.heap.size + 1, 1, none⟩ = false := HR.out.frozen 1
   have d2 : x3.cell? ⟨g, 2, none⟩ = some (.int .i64 id) := HC.out.cell 2
   have q2 : x3.cell? ⟨w.heap.size + 1, 2, none⟩ = some (.int .i64 0) := HR.out.cell 2
   have g2 : x3.frozen? ⟨w.heap.size + 1, 2, none⟩ = false := HR.out.frozen 2
   have d3 : x3.cell? ⟨g, 3, none⟩ = some (.slice kA kl.length kc) := HC.out.cell 3
   have q3 : x3.cell? ⟨w.heap.size + 1, 3, none⟩ = some (.slice none 0 0) := HR.out.cell 3
   have g3 : x3.frozen? ⟨w.heap.size + 1, 3, none⟩ = false := HR.out.frozen 3
   have d4 : x3.cell? ⟨g, 4, none⟩ = some (.int .i64 pr) := HC.out.cell 4
   have q4 : x3.cell? ⟨w.heap.size + 1, 4, none⟩ = some (.int .i64 0) := HR.out.cell 4
   have g4 : x3.frozen? ⟨w.heap.size + 1, 4, none⟩ = false := HR.out.frozen 4
   have d5 : x3.cell? ⟨g, 5, none⟩ = some (.int .i64 ea) := HC.out.cell 5
   have q5 : x3.cell? ⟨w.heap.size + 1, 5, none⟩ = some (.int .i64 0) := HR.out.cell 5
   have g5 : x3.frozen? ⟨w.heap.size + 1, 5, none⟩ = false := HR.out.frozen 5
   have d6 : x3.cell? ⟨g, 6, none⟩ = some (.slice eA el.length ec) := HC.out.cell 6
   have q6 : x3.cell? ⟨w.heap.size + 1, 6, none⟩ = some (.slice none 0 0) := HR.out.cell 6
   have g6 : x3.frozen? ⟨w.heap.size + 1, 6, none⟩ = false := HR.out.frozen 6
   have d7 : x3.cell? ⟨g, 7, none⟩ = some (.int .i64 ca) := HC.out.cell 7
   have q7 : x3.cell? ⟨w.heap.size + 1, 7, none⟩ = some (.int .i64 0) := HR.out.cell 7
   have g7 : x3.frozen? ⟨w.heap.size + 1, 7, none⟩ = false := HR.out.frozen 7
   have d8 : x3.cell? ⟨g, 8, none⟩ = some (.slice cA cl.length cc) := HC.out.cell 8
   have q8 : x3.cell? ⟨w.heap.size + 1, 8, none⟩ = some (.slice none 0 0) := HR.out.cell 8
   have g8 : x3.frozen? ⟨w.heap.size + 1, 8, none⟩ = false := HR.out.frozen 8
   go_wp2
   refine bodyPost_ret (v := .agg (opCells ⟨kd, tb, id, ⟨kl, kA, kc⟩, pr, ea, ⟨el, eA, ec⟩, ca, ⟨cl, cA, cc⟩⟩)) ?_ rfl ?_
   · exact results_cell_row (fn := Tryz.f62) (p := 2) (ty := 39) rfl _ _ (w.heap.size + 1) 39 (opCells ⟨kd, tb, id, ⟨kl, kA, kc⟩, pr, ea, ⟨el, eA, ec⟩, ca, ⟨cl, cA, cc⟩⟩) (0, 0) _ rfl (put9O HR.out _ _ _ _ _ _ _ _ _) Tryz.underlying39 rfl (by kernel_rfl)
   · exact oper_end (o := ⟨kd, tb, id, ⟨kl, kA, kc⟩, pr, ea, ⟨el, eA, ec⟩, ca, ⟨cl, cA, cc⟩⟩) (s := .ok i) (B := g + 1) (by rw [HRO.out]; simp only; rw [HEN.out]) HS.out HL.out (by have := HNG.out; omega) (by have := HBW.out; omega) HNG2.out _ _ _ _ _ _ _ _ _
end
theorem box2P (w : World) (c1 c2 : Array Value) (t1 t2 : TypeId) : ∃ W, W = (w.alloc (.cells c1 t1)).alloc (.cells c2 t2) ∧ Below w.heap.size w W ∧ W.heap.size = w.heap.size + 2 ∧ Blk W w.heap.size t1 c1 ∧ Blk W (w.heap.size + 1) t2 c2 := by
 refine ⟨_, rfl, below2 _ _ _, by simp, (Blk.new _ _ _).alloc _, ?_⟩
 have := Blk.new (w.alloc (.cells c1 t1)) t2 c2
 simpa using this
def NewEnd (w : World) (p : ProgD) (x : L Tk) (e : Ending) (w' : World) : Prop :=
 ∃ r : OR, r.x = x ∧ r.p = p ∧ e = .returned (.pointer (some ⟨r.gR, 0, none⟩)) ∧ OEnv w r ∧ OSt w w' w' r (.ok 0) ∧ Below w.heap.size w w' ∧ r.gR < w'.heap.size
theorem new_end {w W : World} {p : ProgD} {x : L Tk} (hx : LOk w 4 tkL x) (ho : ∀ t ∈ x.l, TkOk t) (hf : x.l.length ≤ 4096) (o : ProgOk w p) (hw : Below w.heap.size w W) (hs : W.heap.size = w.heap.size + 2)
  (b1 : Blk W (w.heap.size + 1) 117 #[.slice x.A x.l.length x.c]) :
  NewEnd w p x (.returned (.pointer (some ⟨W.heap.size + 1, 0, none⟩))) ((W.alloc (.cells #[.int .i64 0] 3)).alloc (.cells (orCells ⟨W.heap.size + 1, W.heap.size, w.heap.size + 1, x, p⟩ 0) 125)) := by
 have h1 : Blk ((W.alloc (.cells #[.int .i64 0] 3)).alloc (.cells (orCells ⟨W.heap.size + 1, W.heap.size, w.heap.size + 1, x, p⟩ 0) 125)) (W.heap.size + 1) 125 (orCells ⟨W.heap.size + 1, W.heap.size, w.heap.size + 1, x, p⟩ 0) := by
  have := Blk.new (W.alloc (.cells #[.int .i64 0] 3)) 125 (orCells ⟨W.heap.size + 1, W.heap.size, w.heap.size + 1, x, p⟩ 0)
  simpa using this
 have h2 := (Blk.new W 3 #[.int .i64 0]).alloc (.cells (orCells ⟨W.heap.size + 1, W.heap.size, w.heap.size + 1, x, p⟩ 0) 125)
 have h3 := (b1.alloc (.cells #[.int .i64 0] 3)).alloc (.cells (orCells ⟨W.heap.size + 1, W.heap.size, w.heap.size + 1, x, p⟩ 0) 125)
 have hb : Below w.heap.size w ((W.alloc (.cells #[.int .i64 0] 3)).alloc (.cells (orCells ⟨W.heap.size + 1, W.heap.size, w.heap.size + 1, x, p⟩ 0) 125)) := below_alloc (below_alloc hw _) _
 exact ⟨⟨W.heap.size + 1, W.heap.size, w.heap.size + 1, x, p⟩, rfl, rfl, rfl,
  ⟨hx, ho, hf, o, by simp only; omega, by simp only; omega, by simp only; omega, by simp only; omega, by simp only; omega, by simp only; omega⟩,
  ⟨⟨0, 0, h1, h2, by omega, rfl, rfl, Nat.zero_le _⟩, h3, Gro.refl _ _ _, hb⟩, hb, h1.lt⟩
theorem onew_any (p : ProgD) (x : L Tk) (w : World) (hx : LOk w 4 tkL x) (ho : ∀ t ∈ x.l, TkOk t) (hf : x.l.length ≤ 4096) (o : ProgOk w p) :
  Calls Tryz.prog 61 #[.agg (progCells p), .slice x.A x.l.length x.c] w (NewEnd w p x) := by
 obtain ⟨W, hW, hw, hsz, b0, b1⟩ := box2P w (progCells p) #[.slice x.A x.l.length x.c] 31 117
 have HE := hi_ (new_end hx ho hf o hw hsz b1)
 have hp3 : ∀ o i, (W.alloc o).cell? ⟨w.heap.size, i, none⟩ = (progCells p)[i]? := fun o i => (b0.alloc o).cell i
 clear hx ho hf o hw hsz b0 b1
 go_enter Tryz.func61, Tryz.ntmps61
 go_upto_region 1 with fail
 rw [← hW]
 clear hW
 go_wp2
 go_ret
 exact HE.out
theorem wf_u (v : Nat) (h : v ≤ 4294967295) : (Lit.int .u32 (v : Int)).wf = true := by
 have e1 : IntKind.u32.min = 0 := rfl
 have e2 : IntKind.u32.max = 4294967295 := rfl
 simp only [Lit.wf, Bool.and_eq_true, decide_eq_true_eq]
 rw [e1, e2]
 omega
theorem wf_i (n : Int) (h : -9223372036854775808 ≤ n ∧ n ≤ 9223372036854775807) : (Lit.int .i64 n).wf = true := by
 have e1 : IntKind.i64.min = -9223372036854775808 := rfl
 have e2 : IntKind.i64.max = 9223372036854775807 := rfl
 simp only [Lit.wf, Bool.and_eq_true, decide_eq_true_eq]
 rw [e1, e2]
 exact h
theorem idxFrom_le (x : ByteArray) : ∀ (l : List ByteArray) (k : Nat), Lib.idxFromS l x k ≤ (k : Int) + l.length ∧ -1 ≤ Lib.idxFromS l x k
 | [], k => by
  rw [Lib.idxFromS.eq_def]
  simp only [List.length_nil]; omega
 | y :: l, k => by
  have h := idxFrom_le x l (k + 1)
  rw [Lib.idxFromS.eq_def]
  simp only
  split
  · simp only [List.length_cons]; omega
  · simp only [List.length_cons]; omega
theorem look_le (l : List ByteArray) (s : ByteArray) : 0 ≤ (lookM l s).1 ∧ (lookM l s).1 ≤ l.length := by
 have h := idxFrom_le s l 0
 rw [lookM]
 split
 · simp only; omega
 ·
  rename_i h2
  simp only [Lib.idxOfS] at h2 ⊢
  omega
theorem res_le (ts : List Tk) (names : List ByteArray) (s : PS) : 0 ≤ (resA ts names s).1 ∧ (resA ts names s).1 ≤ names.length := by
 rw [resA]
 split
 · simp only; omega
 ·
  split
  · exact look_le _ _
  · simp only; omega
def Us (l : List Int) : Prop := ∀ v ∈ l, (Lit.int .u32 v).wf = true
theorem args_wf {ts : List Tk} (h : ∀ t ∈ ts, TkOk t) : ∀ (n : Nat) (f : Bool) (acc : List Int) (s : PS), Us acc → Us (argsA ts n f acc s).1
 | 0, _, _, _, ha => ha
 | _ + 1, _, _, .bad _, ha => ha
 | n + 1, f, acc, .ok i, ha => by
  rw [args_ok]
  split
  · exact ha
  ·
   refine args_wf h n false _ _ (fun v hv => ?_)
   rcases List.mem_append.1 hv with hv | hv
   · exact ha v hv
   ·
    rw [List.mem_singleton] at hv
    rw [hv]; exact wf_u _ (num_le h _)
def Ks (l : List KmD) : Prop := ∀ k ∈ l, (Lit.int .u32 k.v).wf = true ∧ (Lit.int .u32 k.m).wf = true
theorem keys_wf {ts : List Tk} (h : ∀ t ∈ ts, TkOk t) : ∀ (n : Nat) (acc : List KmD) (s : PS), Ks acc → Ks (keysA ts n acc s).1
 | 0, _, _, ha => ha
 | _ + 1, _, .bad _, ha => ha
 | n + 1, acc, .ok i, ha => by
  rw [keys_ok]
  split
  ·
   refine keys_wf h n _ _ (fun k hk => ?_)
   rcases List.mem_append.1 hk with hk | hk
   · exact ha k hk
   ·
    rw [List.mem_singleton] at hk
    rw [hk]; exact ⟨wf_u _ (num_le h _), wf_u _ (num_le h _)⟩
  · exact ha
theorem call_wf {p : ProgD} {ts : List Tk} (h : ∀ t ∈ ts, TkOk t) (hp : p.actions.l.length ≤ 1000) (s : PS) : (Lit.int .i64 (callA p ts s).1.1).wf = true ∧ Us (callA p ts s).1.2 := by
 have h1 := res_le ts (p.actions.l.map ActD.name) (stepA ts 3 wArrow s)
 rw [List.length_map] at h1
 exact ⟨wf_i _ (show _ ∧ _ from by unfold callA; simp only; omega), args_wf h _ _ _ _ (fun _ h => by cases h)⟩
theorem opA_wf {p : ProgD} {ts : List Tk} (h : ∀ t ∈ ts, TkOk t) (hp : p.actions.l.length ≤ 1000) (ht : p.tables.l.length ≤ 1000) : OpFine (opA p ts).1 := by
 have z : (Lit.int .i64 0).wf = true := wf_i 0 (by omega)
 have nA : Us [] := fun _ h => by cases h
 have nK : Ks [] := fun _ h => by cases h
 have hr := res_le ts (p.tables.l.map TabD.name) (.ok 1)
 rw [List.length_map] at hr
 have hr2 : (Lit.int .i64 (resA ts (p.tables.l.map TabD.name) (.ok 1)).1).wf = true := wf_i _ (by omega)
 have num : ∀ s, (Lit.int .i64 ((numA ts s).1 : Int)).wf = true := fun s => wf_i _ (by have := num_le h s; omega)
 unfold opA
 simp only
 split
 · exact ⟨z, z, z, nK, z, z, nA, z, nA⟩
 split
 · exact ⟨wf_i 1 (by omega), hr2, z, keys_wf h _ _ _ nK, num _, (call_wf h hp _).1, (call_wf h hp _).2, z, nA⟩
 split
 · exact ⟨wf_i 2 (by omega), hr2, num _, nK, z, z, nA, (call_wf h hp _).1, (call_wf h hp _).2⟩
 split
 · exact ⟨wf_i 3 (by omega), hr2, num _, nK, z, z, nA, z, nA⟩
 · exact ⟨wf_i 4 (by omega), hr2, z, nK, z, z, nA, (call_wf h hp _).1, (call_wf h hp _).2⟩
theorem nextM_lenO (l : List UInt8) : (nextM l).1.text.length ≤ l.length := by
 match l with
 | [] => exact Nat.zero_le _
 | c :: r =>
  have tl : ∀ n, ((c :: r).take n).length ≤ (c :: r).length := fun n => by rw [List.length_take]; omega
  simp only [nextM]
  split
  ·
   split
   · exact Nat.zero_le _
   · exact tl _
  ·
   split
   ·
    split
    · exact Nat.zero_le _
    · exact tl _
   ·
    split
    · exact Nat.zero_le _
    · exact tl _
theorem tokM_len (N : Nat) : ∀ (n : Nat) (l : List UInt8) (at_ : Nat) (out : List Tk), l.length ≤ N → (∀ t ∈ out, t.text.length ≤ N) → ∀ t ∈ (tokM n l at_ out).1, t.text.length ≤ N
 | 0, _, _, out, _, h => h
 | n + 1, [], _, out, _, h => h
 | n + 1, c :: r, at_, out, hl, h => by
  have hr : r.length ≤ N := by simp only [List.length_cons] at hl; omega
  have hd : ∀ k, ((c :: r).drop k).length ≤ N := fun k => by rw [List.length_drop]; omega
  have hd2 : ∀ k, (r.drop k).length ≤ N := fun k => by rw [List.length_drop]; omega
  rw [tokM]
  split
  · exact tokM_len N n r (at_ + 1) out hr h
  ·
   split
   · exact tokM_len N n r at_ out hr h
   ·
    split
    · exact tokM_len N n _ at_ out (by first | exact hd _ | exact hd2 _ | (refine Nat.le_trans ?_ hl; exact List.IsSuffix.length_le (List.dropWhile_suffix _)) | (refine Nat.le_trans ?_ hr; exact List.IsSuffix.length_le (List.dropWhile_suffix _))) h
    ·
     split
     · exact fun t h => by simp at h
     ·
      split
      ·
       refine tokM_len N n _ at_ _ (by first | exact hd _ | exact hd2 _) (fun t ht => ?_)
       rcases List.mem_append.1 ht with ht | ht
       · exact h t ht
       ·
        simp only [List.mem_singleton] at ht
        subst ht
        exact Nat.le_trans (nextM_lenO (c :: r)) hl
      · exact fun t h => by simp at h
theorem tokenize_len (l : List UInt8) : ∀ t ∈ (tokenize l).1, t.text.length ≤ 16384 := by
 unfold tokenize
 split
 · exact fun t h => by simp at h
 ·
  rename_i h
  exact tokM_len 16384 l.length l 1 [] (by omega) (fun t h => by simp at h)
theorem lookM_first (l : List ByteArray) (i : Nat) (hi : i < l.length) (h : dupB l i = false) : lookM l l[i] = ((i : Int), true) := by
 have e : Lib.idxOfS l l[i] = (i : Int) := by
  have := Lib.idxOfS_hit l l.length i l[i] hi (Nat.le_refl _) (by simp [hi]) (fun j hj e => by
   have hj' : j < l.length := by omega
   have : dupB l i = true := (dupB_iff hi).2 ⟨j, hj', hj, by simpa [hj'] using e⟩
   rw [h] at this; cases this)
  rwa [List.take_length] at this
 rw [lookM, e, if_neg (by omega)]
theorem orE_noneN {α : Type} {a b : Option α} (h : orE a b = none) : a = none ∧ b = none := by
 cases a with
 | none => exact ⟨rfl, h⟩
 | some x => cases h
theorem firstE_mem {α : Type} {f : Nat → Option α} {r : α} : ∀ {n : Nat}, firstE n f = some r → ∃ j, j < n ∧ f j = some r
 | n + 1, h => by
  rw [firstE] at h
  split at h
  ·
   rename_i r' hr
   cases h
   obtain ⟨j, hj, e⟩ := firstE_mem hr
   exact ⟨j, by omega, e⟩
  · exact ⟨n, by omega, h⟩
theorem names_first {p : ProgD} (h : checkM p = none) (part : Int) (i : Nat) (hi : i < (namesOf p part).length) : lookM (namesOf p part) (namesOf p part)[i] = ((i : Int), true) := by
 refine lookM_first _ _ hi ?_
 rw [checkM] at h
 obtain ⟨h0, h⟩ := orE_noneN h
 obtain ⟨h1, h⟩ := orE_noneN h
 obtain ⟨h2, h⟩ := orE_noneN h
 obtain ⟨h3, h⟩ := orE_noneN h
 obtain ⟨h4, h⟩ := orE_noneN h
 obtain ⟨h5, h6⟩ := orE_noneN h
 simp only [namesOf] at hi ⊢
 by_cases p1 : part = 1
 ·
  simp only [if_pos p1] at hi ⊢
  have hi' : i < p.headers.l.length := by simpa using hi
  have := firstE_inv h1 i hi'
  rw [hdrAtM, List.getElem?_eq_getElem hi'] at this
  simp only at this
  split at this
  · cases this
  ·
   split at this
   · cases this
   ·
    split at this
    · cases this
    · exact Bool.eq_false_iff.2 (by assumption)
 simp only [if_neg p1] at hi ⊢
 by_cases p2 : part = 2
 ·
  simp only [if_pos p2] at hi ⊢
  have hi' : i < p.metadata.l.length := by simpa using hi
  rw [metaM] at h2
  split at h2
  · cases h2
  ·
   split at h2
   · cases h2
   ·
    rename_i hf
    have := firstE_inv hf i hi'
    rw [Option.map_eq_none_iff, fldM, List.getElem?_eq_getElem hi'] at this
    simp only at this
    split at this
    · cases this
    ·
     split at this
     · cases this
     ·
      split at this
      · cases this
      · exact Bool.eq_false_iff.2 (by assumption)
 simp only [if_neg p2] at hi ⊢
 by_cases p3 : part = 3
 ·
  simp only [if_pos p3] at hi ⊢
  have hi' : i < p.registers.l.length := by simpa using hi
  have := firstE_inv h3 i hi'
  rw [regAtM, List.getElem?_eq_getElem hi'] at this
  simp only at this
  split at this
  · cases this
  ·
   split at this
   · cases this
   · exact Bool.eq_false_iff.2 (by assumption)
 simp only [if_neg p3] at hi ⊢
 by_cases p4 : part = 4
 ·
  simp only [if_pos p4] at hi ⊢
  have hi' : i < p.actions.l.length := by simpa using hi
  have := firstE_inv h4 i hi'
  rw [actAtM, List.getElem?_eq_getElem hi'] at this
  simp only at this
  split at this
  · cases this
  ·
   split at this
   · cases this
   · exact Bool.eq_false_iff.2 (by assumption)
 simp only [if_neg p4] at hi ⊢
 by_cases p5 : part = 5
 ·
  simp only [if_pos p5] at hi ⊢
  have hi' : i < p.tables.l.length := by simpa using hi
  have := firstE_inv h5 i hi'
  rw [tabAtM, List.getElem?_eq_getElem hi'] at this
  simp only at this
  split at this
  · cases this
  ·
   split at this
   · cases this
   · exact Bool.eq_false_iff.2 (by assumption)
 simp only [if_neg p5] at hi ⊢
 by_cases p6 : part = 6
 ·
  simp only [if_pos p6] at hi ⊢
  have hi' : i < p.states.l.length := by simpa using hi
  rw [flowM] at h6
  split at h6
  · cases h6
  ·
   rename_i hp
   rw [parserM] at hp
   split at hp
   · simp at hp
   ·
    split at hp
    · simp at hp
    ·
     split at hp
     ·
      rename_i r hr
      obtain ⟨j, hj, hj2⟩ : ∃ j, j < p.states.l.length ∧ stateAtM p j = some r := firstE_mem hr
      rw [stateAtM] at hj2
      split at hj2
      · cases hj2
      ·
       try simp only at hj2
       split at hj2
       · cases hj2; simp at hp
       ·
        split at hj2
        · cases hj2; simp at hp
        ·
         split at hj2
         ·
          rename_i hne
          cases hj2
          exact absurd (by simpa using hp) hne
         · cases hj2
     ·
      rename_i hf
      have := firstE_inv hf i hi'
      rw [stateAtM, List.getElem?_eq_getElem hi'] at this
      simp only at this
      split at this
      · cases this
      ·
       split at this
       · cases this
       · exact Bool.eq_false_iff.2 (by assumption)
 simp only [if_neg p6] at hi
 simp at hi
theorem orE_some {α : Type} {a b : Option α} {r : α} (h : orE a b = some r) : a = some r ∨ b = some r := by
 cases a with
 | none => exact .inr h
 | some x => exact .inl h
theorem fldM_code {l : List FieldD} {i : Nat} {e : Int} (h : fldM l i = some e) : e ≠ 0 := by
 rw [fldM] at h
 split at h
 · cases h
 ·
  split at h
  · cases h; simp
  ·
   split at h
   · cases h; simp
   ·
    split at h
    · cases h; simp
    · cases h
theorem checkM_code {p : ProgD} {d : DiagD} (h : checkM p = some d) : d.code ≠ 0 := by
 rw [checkM] at h
 rcases orE_some h with h | h
 ·
  rw [limM] at h
  repeat' split at h
  all_goals first | (cases h; simp) | cases h
 rcases orE_some h with h | h
 ·
  obtain ⟨j, _, h⟩ := firstE_mem h
  rw [hdrAtM] at h
  split at h
  · cases h
  ·
   split at h
   · rename_i hc; cases h; exact hc
   ·
    repeat' split at h
    all_goals first | (cases h; simp) | cases h
 rcases orE_some h with h | h
 ·
  rw [metaM] at h
  split at h
  · cases h; simp
  ·
   split at h
   ·
    rename_i d' hd
    cases h
    obtain ⟨j, _, h⟩ := firstE_mem hd
    obtain ⟨e, he, rfl⟩ := Option.map_eq_some_iff.1 h
    exact fldM_code he
   ·
    obtain ⟨j, _, h⟩ := firstE_mem h
    split at h
    · cases h; simp
    · cases h
 rcases orE_some h with h | h
 ·
  obtain ⟨j, _, h⟩ := firstE_mem h
  rw [regAtM] at h
  split at h
  · cases h
  ·
   split at h
   · rename_i hc; cases h; exact hc
   ·
    split at h
    · cases h; simp
    · cases h
 rcases orE_some h with h | h
 ·
  obtain ⟨j, _, h⟩ := firstE_mem h
  rw [actAtM] at h
  split at h
  · cases h
  ·
   split at h
   · rename_i hc; cases h; exact hc
   ·
    split at h
    · cases h; simp
    · cases h
 rcases orE_some h with h | h
 ·
  obtain ⟨j, _, h⟩ := firstE_mem h
  rw [tabAtM] at h
  split at h
  · cases h
  ·
   split at h
   · rename_i hc; cases h; exact hc
   ·
    split at h
    · cases h; simp
    · cases h
 ·
  rw [flowM] at h
  split at h
  · rename_i hc; cases h; exact hc
  ·
   split at h
   · rename_i hc; cases h; exact hc
   ·
    split at h
    · rename_i hc; cases h; exact hc
    · cases h
theorem diagM_ok {p : ProgD} (h : (diagM p).code = 0) : checkM p = none := by
 rw [diagM] at h
 cases hc : checkM p with
 | none => rfl
 | some d => rw [hc] at h; exact absurd h (checkM_code hc)
theorem Tryz.infoTok : (Tryz.prog.info? 191).map (fun i => (i.zero, i.size, i.bytes)) = some (some (.agg #[.int .i64 0, .string ⟨#[]⟩, .int .u32 0, .int .i64 0]), 4, 40) := by kernel_rfl
theorem nl_any (c : Int) (w : World) :
  Calls Tryz.prog 126 #[.int .u8 c] w fun e w' => e = .returned (.bool (notNl c)) ∧ w = w' := by
 go_enter Tryz.func126, Tryz.ntmps126
 go_wp2
 go_ret
 exact ⟨rfl, rfl⟩
theorem ext_nl (s : ByteArray) (w : World) (hs : s.size ≤ maxLen) :
  Calls Tryz.prog 125 #[.string s, .func (.func 126) #[] #[]] w fun e w' => e = .returned (.int .i64 (ext notNl s.data.toList)) ∧ w = w' :=
 extent_any _ notNl s w hs (fun _ _ => by kernel_rfl) (hi_ nl_any)
def TokRel (s : ByteArray) (w : World) (sv lv av : Value) (wr : World) : Prop :=
 ∃ (t : ByteArray) (at_ : Nat) (out : List Tk) (A : Option Addr) (c : Nat), sv = .string t ∧ t.size ≤ s.size ∧ av = .int .i64 at_ ∧ at_ + t.size ≤ s.size + 1 ∧ out.length + t.size ≤ s.size ∧
  lv = .slice A out.length c ∧ out.length ≤ c ∧ wr.ownsRow w.heap.size 191 4 (.slice A out.length c) out.length (tkCells out) ∧ Below w.heap.size w wr ∧
  tokM s.data.toList.length s.data.toList 1 [] = tokM s.data.toList.length t.data.toList at_ out
def TokEnd (s : ByteArray) (w : World) (e : Ending) (w' : World) : Prop :=
 ∃ (A : Option Addr) (c : Nat), e = .returned (.tuple #[.slice A (tokenize s.data.toList).1.length c, .int .i64 (tokenize s.data.toList).2.1, .int .i64 (tokenize s.data.toList).2.2]) ∧ (tokenize s.data.toList).1.length ≤ c ∧
  w'.ownsRow w.heap.size 191 4 (.slice A (tokenize s.data.toList).1.length c) (tokenize s.data.toList).1.length (tkCells (tokenize s.data.toList).1) ∧ Below w.heap.size w w'
def strSize : Value → Nat
 | .string t => t.size
 | _ => 0
theorem size_rest (t : ByteArray) (k : Nat) : (t.extract k t.size).size = t.size - k := by simp
theorem tok_step {s t : ByteArray} {at_ : Nat} {out : List Tk} (h : tokM s.data.toList.length s.data.toList 1 [] = tokM s.data.toList.length t.data.toList at_ out) (ht : t.size ≤ s.size) (h0 : 0 < t.size)
  {k : Nat} (hk : 0 < k) {b : Nat} {out' : List Tk} (hs : ∀ n, tokM (n + 1) t.data.toList at_ out = tokM n (t.data.toList.drop k) b out') :
  tokM s.data.toList.length s.data.toList 1 [] = tokM s.data.toList.length (t.extract k t.size).data.toList b out' := by
 rw [h, Lib.extract_to_end]
 obtain ⟨n, hn⟩ : ∃ n, s.data.toList.length = n + 1 := ⟨s.data.toList.length - 1, by have : s.data.toList.length = s.size := rfl; omega⟩
 rw [hn, hs n]
 have e : (t.data.toList.drop k).length = t.size - k := by rw [List.length_drop]; rfl
 have e2 : s.data.toList.length = s.size := rfl
 exact tokM_fuel _ _ _ _ _ (by omega) (by omega)
theorem tokenize_any (s : ByteArray) (w : World) (hs0 : s.size ≤ maxLen) :
  Calls Tryz.prog 60 #[.string s] w fun e w' => TokEnd s w e w' := by
 unfold maxLen at hs0
 by_cases hlong : 16384 < s.size
 ·
  go_enter Tryz.func60, Tryz.ntmps60
  go_wp2
  go_step3
  go_wp2
  rw [Exit.noGoto_ret]
  go_ret3
  have e : tokenize s.data.toList = ([], 0, 4) := by rw [tokenize, if_pos (show 16384 < s.data.toList.length from hlong)]
  refine ⟨none, 0, ?_⟩
  rw [e]
  exact ⟨rfl, Nat.le_refl _, World.ownsRow_nil _ _ _ _, Below.refl _ _⟩
 ·
  obtain ⟨i0, hi, hz0, hz1, hz2⟩ := info_parts Tryz.infoTok
  have hs : s.size ≤ 16384 := by omega
  have HT : Hid (tokenize s.data.toList = tokM s.data.toList.length s.data.toList 1 []) := by
   refine hi_ ?_
   rw [tokenize, if_neg (show ¬ 16384 < s.data.toList.length from hlong)]
  clear hs0
  go_enter Tryz.func60, Tryz.ntmps60
  go_wp2
  go_step3
  go_wp2
  go_step3
  go_wp2
  go_loopw [0, 2, 5] (fun sv lv av wr => TokRel s w sv lv av wr) (fun sv _ _ _ => strSize sv)
  case atStart => exact ⟨s, 1, [], none, 0, rfl, Nat.le_refl _, rfl, by omega, by simp, rfl, Nat.le_refl _, World.ownsRow_nil _ _ _ _, Below.refl _ _, rfl⟩
  case round =>
   obtain ⟨t, at_, out, A, c, rfl, htl, rfl, hat, hout, rfl, hc, hown, hbel, hrun⟩ := hrel
   have HR := hi_ hrun
   clear hrun
   by_cases h0 : 0 < t.size
   ·
    have HL := hi_ (list_one t h0)
    have hin : ∀ k : UInt8, t[0] ≠ k → ((t[0].toNat : Int) == (k.toNat : Int)) = false := fun k h => byte_ne h
    have HIN := hi_ hin
    clear hin
    by_cases h1 : t[0] = 10
    ·
     have h1' : ((t[0].toNat : Int) == 10) = true := by rw [h1]; rfl
     have H1 := hi_ h1
     clear h1
     go_wp2
     go_roundw
     case rel =>
      refine ⟨t.extract 1 t.size, at_ + 1, out, A, c, rfl, by rw [size_rest]; omega, by go_num, by rw [size_rest]; omega, by rw [size_rest]; omega, rfl, hc, hown, hbel, ?_⟩
      refine tok_step HR.out htl h0 (k := 1) (by omega) fun n => ?_
      rw [HL.out, tokM]
      simp only [H1.out, if_true, List.drop_succ_cons, List.drop_zero]
     case measure => show (t.extract 1 t.size).size < t.size; rw [size_rest]; omega
    ·
     have h1' : ((t[0].toNat : Int) == 10) = false := HIN.out 10 h1
     have H1 := hi_ h1
     clear h1
     by_cases h2 : t[0] = 32 ∨ t[0] = 9
     ·
      have H2 := hi_ h2
      have h2' : ((t[0].toNat : Int) == 32) = true ∨ (((t[0].toNat : Int) == 32) = false ∧ ((t[0].toNat : Int) == 9) = true) := by
       rcases h2 with h | h
       · left; rw [h]; rfl
       · right; rw [h]; exact ⟨rfl, rfl⟩
      clear h2
      rcases h2' with h2' | ⟨h2', h3'⟩
      all_goals
       go_wp2
       go_roundw
       case rel =>
        refine ⟨t.extract 1 t.size, at_, out, A, c, rfl, by rw [size_rest]; omega, rfl, by rw [size_rest]; omega, by rw [size_rest]; omega, rfl, hc, hown, hbel, ?_⟩
        refine tok_step HR.out htl h0 (k := 1) (by omega) fun n => ?_
        rw [HL.out, tokM]
        simp only [H1.out, H2.out, if_true, if_false, List.drop_succ_cons, List.drop_zero]
       case measure => show (t.extract 1 t.size).size < t.size; rw [size_rest]; omega
     ·
      have h2' : ((t[0].toNat : Int) == 32) = false := HIN.out 32 (fun h => h2 (.inl h))
      have h3' : ((t[0].toNat : Int) == 9) = false := HIN.out 9 (fun h => h2 (.inr h))
      have H2 := hi_ h2
      clear h2
      by_cases h4 : t[0] = 35
      ·
       have h4' : ((t[0].toNat : Int) == 35) = true := by rw [h4]; rfl
       have H4 := hi_ h4
       clear h4
       have hle : ext notNl t.data.toList ≤ t.size := ext_le _ _
       have hpos : 0 < ext notNl t.data.toList := by rw [HL.out, ext, if_pos (by rw [H4.out]; decide)]; omega
       go_wp2_with fail
       refine (ext_nl _ _ (by unfold maxLen; omega)).mono ?_
       rintro e w' ⟨rfl, rfl⟩
       go_wp2
       go_roundw
       case rel =>
        refine ⟨t.extract (ext notNl t.data.toList) t.size, at_, out, A, c, rfl, by rw [size_rest]; omega, rfl, by rw [size_rest]; omega, by rw [size_rest]; omega, rfl, hc, hown, hbel, ?_⟩
        refine tok_step HR.out htl h0 hpos fun n => ?_
        rw [HL.out, tokM, if_neg H1.out, if_neg H2.out, if_pos H4.out]
       case measure => show (t.extract _ t.size).size < t.size; rw [size_rest]; omega
      ·
       have h4' : ((t[0].toNat : Int) == 35) = false := HIN.out 35 h4
       have H4 := hi_ h4
       clear h4
       by_cases h5 : 4096 ≤ out.length
       ·
        go_wp2
        rw [Exit.noGoto_ret]
        go_ret3
        have e : tokenize s.data.toList = ([], at_, 12) := by
         obtain ⟨n, hn⟩ : ∃ n, s.data.toList.length = n + 1 := ⟨s.data.toList.length - 1, by have : s.data.toList.length = s.size := rfl; omega⟩
         rw [HT.out, HR.out, hn, HL.out, tokM, if_neg H1.out, if_neg H2.out, if_neg H4.out, if_pos h5]
        refine ⟨none, 0, ?_⟩
        rw [e]
        exact ⟨rfl, Nat.le_refl _, World.ownsRow_nil _ _ _ _, hbel⟩
       ·
        go_wp2_with fail
        refine (next_any t _ (by omega) h0).mono ?_
        rintro e w1 ⟨rfl, hb⟩
        rcases hn : nextM t.data.toList with ⟨tk, f⟩
        rw [show nextEnd t.data.toList = .returned (.tuple #[.agg #[.int .i64 tk.kind, .string ⟨tk.text.toArray⟩, .int .u32 tk.value, .int .i64 tk.line], .int .i64 f]) from by rw [nextEnd, hn]; rfl]
        have HN := hi_ hn
        clear hn
        have hown1 := own_below hown hb
        have hbel1 := hbel.trans (hb.mono hbel.size)
        clear hown hbel hb
        by_cases h6 : f = 0
        ·
         have H6 := hi_ h6
         have h6' : ((f : Int) != 0) = false := by rw [h6]; rfl
         have hpl := nextM_len t.data.toList (by rw [HN.out]; exact H6.out)
         rw [HN.out] at hpl
         simp only at hpl
         obtain ⟨hpl0, hpl1⟩ := hpl
         replace hpl1 : tk.text.length ≤ t.size := hpl1
         clear h6
         go_wp2_with (first
          | (at_builtin; refine wpList_append_own _ rfl _ _ 117 rfl w.heap.size 191 i0 _ 4 40 Tryz.underlying117 hi hz0 hz1 hz2 rfl (by decide) _ _ _ rfl ((hown1.alloc _).alloc _) ⟨w1.heap.size + 1, 0, none⟩ 1 1 [.int .i64 tk.kind, .string ⟨tk.text.toArray⟩, .int .u32 tk.value, .int .i64 at_] rfl rfl ?c1 ?c2 ?c3 ?c4 ?c5 ?_))
         case c1 =>
          intro j u hj
          match j, hj with
          | 0, hj => simp at hj; subst hj; simp [Addr.add]
          | 1, hj => simp at hj; subst hj; simp [Addr.add]
          | 2, hj => simp at hj; subst hj; simp [Addr.add]
          | 3, hj => simp at hj; subst hj; simp [Addr.add]
         case c2 => intro u hu; simp at hu; rcases hu with rfl | rfl | rfl | rfl <;> rfl
         case c3 => unfold maxLen; omega
         case c4 => omega
         case c5 => have := hbel1.size; simp; omega
         intro v' w2 hown2 hgrow _
         have hbel2 : Below w.heap.size w w2 := by
          refine (below_alloc (below_alloc hbel1 _) _).grown hgrow (by have := hbel1.size; simp; omega) fun k hk => ?_
          exact (hown1.lt k hk).1
         have HB := hi_ hbel2
         have HO := hi_ hown2
         obtain ⟨A', c', hv, hc'⟩ := own_slice hown2
         have HC := hi_ hc'
         have HV := hi_ hv
         clear hbel2 hown2 hgrow hc' hbel1 hown1 hv
         go_wp2
         go_roundw
         case rel =>
          have hl : (out ++ [({ tk with line := at_ } : Tk)]).length = out.length + 1 := by simp
          refine ⟨t.extract tk.text.length t.size, at_, out ++ [{ tk with line := at_ }], A', c', rfl, by rw [size_rest]; omega, rfl, by rw [size_rest]; omega, by rw [size_rest, hl]; omega, by rw [hl]; exact HV.out, by rw [hl]; exact HC.out, ?_, HB.out, ?_⟩
          ·
           rw [hl, tkCells_snoc, ← HV.out]
           exact HO.out
          ·
           refine tok_step HR.out htl h0 hpl0 fun n => ?_
           rw [HL.out, tokM, if_neg H1.out, if_neg H2.out, if_neg H4.out, if_neg h5, ← HL.out, HN.out, if_pos H6.out]
         case measure => show (t.extract _ t.size).size < t.size; rw [size_rest]; omega
        ·
         have h6' : ((f : Int) != 0) = true := by rw [bne_iff_ne]; omega
         go_wp2
         rw [Exit.noGoto_ret]
         go_ret3
         have e : tokenize s.data.toList = ([], at_, f) := by
          obtain ⟨n, hn⟩ : ∃ n, s.data.toList.length = n + 1 := ⟨s.data.toList.length - 1, by have : s.data.toList.length = s.size := rfl; omega⟩
          rw [HT.out, HR.out, hn, HL.out, tokM, if_neg H1.out, if_neg H2.out, if_neg H4.out, if_neg h5, ← HL.out, HN.out, if_neg h6]
         refine ⟨none, 0, ?_⟩
         rw [e]
         exact ⟨rfl, Nat.le_refl _, World.ownsRow_nil _ _ _ _, hbel1.alloc hbel1.size _⟩
   ·
    have hz : t.data.toList = [] := List.eq_nil_of_length_eq_zero (show t.size = 0 by omega)
    have HZ := hi_ hz
    clear hz
    go_wp2
    try rw [Exit.noGoto_ret]
    go_ret3
    have e : tokenize s.data.toList = (out, 0, 0) := by
     rw [HT.out, HR.out, HZ.out]
     cases s.data.toList.length <;> rfl
    refine ⟨A, c, ?_⟩
    rw [e]
    exact ⟨rfl, hc, hown, hbel⟩
def ParseEnd (w : World) (R : OpP × Int) (e : Ending) (w' : World) : Prop := ∃ o : OpD, e = .returned (.tuple #[.agg (opCells o), .int .i64 R.2]) ∧ o.bare = R.1 ∧ OpLies w' o w.heap.size ∧ Below w.heap.size w w'
theorem parse_end {w wx : World} {R : OpP × Int} {o : OpD} {z : Int} (hR : R = (o.bare, z)) (hB : Below w.heap.size w wx) (hL : OpLies wx o (w.heap.size + 2)) (x0 x1 x2 x3 x4 x5 x6 x7 x8 : Value) :
  ParseEnd w R (.returned (.tuple #[.agg (opCells o), .int .i64 z])) (((((((((wx.setCell ⟨w.heap.size + 1, 0, none⟩ (x0)).setCell ⟨w.heap.size + 1, 1, none⟩ (x1)).setCell ⟨w.heap.size + 1, 2, none⟩ (x2)).setCell ⟨w.heap.size + 1, 3, none⟩ (x3)).setCell ⟨w.heap.size + 1, 4, none⟩ (x4)).setCell ⟨w.heap.size + 1, 5, none⟩ (x5)).setCell ⟨w.heap.size + 1, 6, none⟩ (x6)).setCell ⟨w.heap.size + 1, 7, none⟩ (x7)).setCell ⟨w.heap.size + 1, 8, none⟩ (x8)) := by
 subst hR
 have hk : w.heap.size + 1 < w.heap.size + 2 := Nat.lt_succ_self _
 have q := fun {u : World} (h : Below w.heap.size w u) (j : Nat) (v : Value) => h.setCell (p := ⟨w.heap.size + 1, j, none⟩) (Nat.le_succ _) v
 exact ⟨o, rfl, rfl, (((((((((hL.set hk).set hk).set hk).set hk).set hk).set hk).set hk).set hk).set hk).mono (Nat.le_add_right _ 2), q (q (q (q (q (q (q (q (q hB 0 x0) 1 x1) 2 x2) 3 x3) 4 x4) 5 x5) 6 x6) 7 x7) 8 x8⟩
theorem parse_drew {w w' : World} {R : OpP × Int} {e : Ending} (h : ParseEnd w R e w') : ParseEnd w R e w'.drew := by
 obtain ⟨o, h1, h2, h3, h4⟩ := h
 exact ⟨o, h1, h2, h3.below (below_drew (Below.refl _ _)), below_drew h4⟩
structure ProgG (w : World) (p : ProgD) : Prop where
 ok : ProgOk w p
 cap : ProgCap p
 nodes : (presM p.control.l).length ≤ 90000
 a : p.actions.l.length ≤ 1000
 t : p.tables.l.length ≤ 1000
theorem ProgG.below {w w' : World} {p : ProgD} (h : ProgG w p) (hb : Below w.heap.size w w') : ProgG w' p := ⟨h.ok.below hb, h.cap, h.nodes, h.a, h.t⟩
theorem oFormat_any (p : ProgD) (x : OpD) (w : World) (G : ProgG w p) (hx : OpOk w x) (hf : OpFine x.bare) (ht : Tab w) :
  Calls Tryz.prog 10 #[.agg (progCells p), .agg (opCells x)] w fun e w' => e = .returned (.tuple #[.string ⟨(formatM p x.bare).1.toArray⟩, .int .i64 (formatM p x.bare).2]) ∧ Below w.heap.size w w' := by
 obtain ⟨W, hW, hw, HB, hp⟩ := box2 w (progCells p) 31 (opCells x) 39
 have HW := hi_ hw
 have HCk := hi_ (fun u (hb : Below W.heap.size W u) => check_any p u (G.ok.below (below_step hw hb)) G.cap G.nodes)
 have HFo := hi_ (formatM.eq_1 p x.bare)
 have HFt := hi_ (fun (hz : (diagM p).code = 0) u (hb : Below W.heap.size W u) => oformat_any p x u (G.ok.below (below_step hw hb)) (diagM_ok hz) G.cap.dflt (hx.below (below_step hw hb)) hf (ht.base (below_step hw hb)))
 generalize fmtOp p x.bare = F at *
 generalize formatM p x.bare = R at *
 simp only [diag_val] at HCk
 generalize diagM p = d at *
 obtain ⟨dc, dp, di, ds⟩ := d
 simp only at HCk HFo HFt
 clear hw G hx hf ht
 by_cases hz : dc = 0
 ·
  have HR := tr_ HFo (if_neg (fun h => h hz))
  have HF := hi_ (HFt.out hz)
  subst hz
  clear HFo HFt
  go_enter Tryz.func10, Tryz.ntmps10
  go_upto_region 1 with fail
  rw [← hW]
  clear hW
  have hp3 := (hp W HB).1
  have hp4 := (hp W HB).2
  go_wp2_with fail
  refine (HCk.out _ (by first | exact HB | exact ba1 HB | exact ba2 HB | exact ba3 HB)).mono ?_
  rintro e w1 ⟨rfl, hbN⟩
  replace HB := below_step (by first | exact HB | exact ba1 HB | exact ba2 HB | exact ba3 HB) hbN
  clear hbN
  have hca := @World.cell?_alloc_some
  have hp3 := fun o => (hp _ (below_alloc HB o)).1
  have hp4 := fun o => (hp _ (below_alloc HB o)).2
  go_wp2_with fail
  refine (HF.out _ (below_alloc HB _)).mono ?_
  rintro e w2 ⟨rfl, hb2⟩
  have HB2 := hi_ (below_step (below_alloc HB _) hb2)
  clear hb2
  go_wp2
  go_ret2
  exact ⟨by rw [HR.out]; rfl, below_step HW.out HB2.out⟩
 ·
  have HR := tr_ HFo (if_pos hz)
  have hz' : (dc != 0) = true := bne_iff_ne.2 hz
  clear HFo HFt hz
  go_enter Tryz.func10, Tryz.ntmps10
  go_upto_region 1 with fail
  rw [← hW]
  clear hW
  have hp3 := (hp W HB).1
  have hp4 := (hp W HB).2
  go_wp2_with fail
  refine (HCk.out _ (by first | exact HB | exact ba1 HB | exact ba2 HB | exact ba3 HB)).mono ?_
  rintro e w1 ⟨rfl, hbN⟩
  replace HB := below_step (by first | exact HB | exact ba1 HB | exact ba2 HB | exact ba3 HB) hbN
  clear hbN
  obtain ⟨X, hX⟩ : ∃ X, X = w1.alloc (.cells #[.int .i64 dc, .int .i64 dp, .int .i64 di, .int .i64 ds] 70) := ⟨_, rfl⟩
  have HXB : Hid (Blk X w1.heap.size 70 #[.int .i64 dc, .int .i64 dp, .int .i64 di, .int .i64 ds]) := hi_ (by rw [hX]; exact Blk.new _ _ _)
  have HBX : Hid (Below W.heap.size W X) := hi_ (by rw [hX]; exact below_alloc HB _)
  go_upto_region 2 with fail
  rw [← hX]
  clear hX hp3 hp4
  have c0 : X.cell? ⟨w1.heap.size, 0, none⟩ = some (.int .i64 dc) := HXB.out.cell 0
  go_upto_region 3 with fail
  go_quiet (fail)
  go_wp2
  go_ret2
  exact ⟨by rw [HR.out]; rfl, below_step HW.out (below_drewN HBX.out _)⟩
theorem oparse_any (p : ProgD) (s : ByteArray) (w : World) (G : ProgG w p) (hck : checkM p = none) (hs : s.size ≤ maxLen) (ht : Tab w) :
  Calls Tryz.prog 28 #[.agg (progCells p), .string s] w (ParseEnd w (readM p s.data.toList)) := by
 obtain ⟨W, hW, hw, hsz, b0, b1⟩ := box2P w (progCells p) #[.int .i64 0, .int .i64 0, .int .i64 0, .slice none 0 0, .int .i64 0, .int .i64 0, .slice none 0 0, .int .i64 0, .slice none 0 0] 31 39
 have HW := hi_ hw
 have HSz := hi_ hsz
 have HPB := hi_ b0
 have HRB := hi_ b1
 have HG := hi_ (G.below hw)
 have HT := hi_ (ht.base hw)
 have HC := hi_ hck
 have HTk := hi_ (tokenize_any s W hs)
 have HRM := hi_ (readM.eq_1 p s.data.toList)
 have HTO := hi_ (tokenize_ok s.data.toList)
 have HTL := hi_ (tokenize_len s.data.toList)
 clear hw hsz b0 b1 G ht hck hs
 unfold TokEnd at HTk
 generalize readM p s.data.toList = R at *
 generalize tokenize s.data.toList = tz at *
 obtain ⟨ts, tln, te⟩ := tz
 simp only at HTk HRM HTO HTL
 go_enter Tryz.func28, Tryz.ntmps28
 go_upto_region 1 with fail
 rw [← hW]
 clear hW
 go_wp2_with fail
 refine HTk.out.mono ?_
 rintro e1 w1 ⟨A, c, rfl, hlc, hown, hb1⟩
 have HB1 := hi_ hb1
 have HL1 := hi_ (own_tk hown (Nat.le_trans HTO.out.2 (by unfold maxLen; decide)))
 have HR1 := hi_ (HRB.out.below hb1 HRB.out.lt)
 have HP1 := hi_ (HPB.out.below hb1 HPB.out.lt)
 clear hlc hown hb1 HTk HRB HPB
 by_cases hz : te = 0
 case neg =>
  have HRX : Hid (R = (zeroO.bare, (te : Int))) := tr_ HRM (if_pos (by omega))
  have hz' : ((te : Int) != 0) = true := bne_iff_ne.2 (by omega)
  clear hz HRM
  have q0 : w1.cell? ⟨w.heap.size + 1, 0, none⟩ = some (.int .i64 0) := HR1.out.cell 0
  have g0 : w1.frozen? ⟨w.heap.size + 1, 0, none⟩ = false := HR1.out.frozen 0
  have q1 : w1.cell? ⟨w.heap.size + 1, 1, none⟩ = some (.int .i64 0) := HR1.out.cell 1
  have g1 : w1.frozen? ⟨w.heap.size + 1, 1, none⟩ = false := HR1.out.frozen 1
  have q2 : w1.cell? ⟨w.heap.size + 1, 2, none⟩ = some (.int .i64 0) := HR1.out.cell 2
  have g2 : w1.frozen? ⟨w.heap.size + 1, 2, none⟩ = false := HR1.out.frozen 2
  have q3 : w1.cell? ⟨w.heap.size + 1, 3, none⟩ = some (.slice none 0 0) := HR1.out.cell 3
  have g3 : w1.frozen? ⟨w.heap.size + 1, 3, none⟩ = false := HR1.out.frozen 3
  have q4 : w1.cell? ⟨w.heap.size + 1, 4, none⟩ = some (.int .i64 0) := HR1.out.cell 4
  have g4 : w1.frozen? ⟨w.heap.size + 1, 4, none⟩ = false := HR1.out.frozen 4
  have q5 : w1.cell? ⟨w.heap.size + 1, 5, none⟩ = some (.int .i64 0) := HR1.out.cell 5
  have g5 : w1.frozen? ⟨w.heap.size + 1, 5, none⟩ = false := HR1.out.frozen 5
  have q6 : w1.cell? ⟨w.heap.size + 1, 6, none⟩ = some (.slice none 0 0) := HR1.out.cell 6
  have g6 : w1.frozen? ⟨w.heap.size + 1, 6, none⟩ = false := HR1.out.frozen 6
  have q7 : w1.cell? ⟨w.heap.size + 1, 7, none⟩ = some (.int .i64 0) := HR1.out.cell 7
  have g7 : w1.frozen? ⟨w.heap.size + 1, 7, none⟩ = false := HR1.out.frozen 7
  have q8 : w1.cell? ⟨w.heap.size + 1, 8, none⟩ = some (.slice none 0 0) := HR1.out.cell 8
  have g8 : w1.frozen? ⟨w.heap.size + 1, 8, none⟩ = false := HR1.out.frozen 8
  go_wp2
  refine bodyPost_ret (v := .tuple #[.agg (opCells zeroO), .int .i64 te]) ?_ rfl ?_
  · exact results_row_tmp (fn := Tryz.f28) (p := 4) (u := 5) (ty := 39) rfl _ _ (w.heap.size + 1) 39 (opCells zeroO) _ rfl (put9O HR1.out _ _ _ _ _ _ _ _ _) Tryz.underlying39 rfl (by kernel_rfl)
  · exact parse_end (o := zeroO) (by rw [HRX.out]) (below_step HW.out HB1.out) (zero_lies _ _) _ _ _ _ _ _ _ _ _
 have HRM2 := tr_ HRM (if_neg (by omega))
 subst hz
 clear HRM
 have hp3 : ∀ i, w1.cell? ⟨w.heap.size, i, none⟩ = (progCells p)[i]? := fun i => HP1.out.cell i
 have HNW := hi_ (onew_any p ⟨ts, A, c⟩ w1 HL1.out HTO.out.1 HTO.out.2 (HG.out.ok.below HB1.out))
 go_wp2_with fail
 refine HNW.out.mono ?_
 rintro e2 w2 ⟨r, hrx, hrp, rfl, E, hS, hb2, hlt⟩
 obtain ⟨gR, gA, gL, rx, rp⟩ := r
 try simp only at hrx hrp hlt
 have hrx' := hrx.symm
 have hrp' := hrp.symm
 clear hrx hrp
 subst hrx' hrp'
 have HE := hi_ E
 have HS := hi_ hS
 have HB2 := hi_ (below_step HB1.out hb2)
 have HR2 := hi_ (HR1.out.below hb2 HR1.out.lt)
 have HP2 := hi_ (HP1.out.below hb2 HP1.out.lt)
 have HNE : Hid (w.heap.size + 1 < gR ∧ w.heap.size + 1 < gA ∧ w.heap.size < gR ∧ w.heap.size < gA) := hi_ (by
  have h1 := HE.out.rr
  have h2 := HE.out.a
  have h3 := HR1.out.lt
  simp only at h1 h2
  omega)
 have HOP := hi_ (ooper HE.out HS.out HG.out.a HG.out.t HTL.out)
 try simp only at HOP
 clear hp3 E hS hb2 hlt HNW HR1 HP1 HL1
 go_wp2_with fail
 refine HOP.out.mono ?_
 rintro e3 w3 ⟨o, rfl, hob, hok, hS3⟩
 have hok2 : OpLies w3 o (w.heap.size + 2) := hok.mono (by have h1 := HB2.out.size; have h2 := HSz.out; omega)
 have HS3 := hi_ hS3
 have HOK := hi_ hok2
 have HR3 := hi_ (hS3.gr.blk HR2.out (by have := HNE.out; simp only; omega) (by have := HNE.out; simp only; omega))
 have HP3 := hi_ (hS3.gr.blk HP2.out (by have := HNE.out; simp only; omega) (by have := HNE.out; simp only; omega))
 have HB3 : Hid (Below W.heap.size W w3) := hi_ (below_step HB1.out hS3.base)
 have HFN : Hid (OpFine o.bare) := hi_ (by rw [hob]; exact opA_wf HTO.out.1 HG.out.a HG.out.t)
 try simp only at hob
 rw [← hob] at HRM2
 have HFM := hi_ (fmtOp.eq_1 p o.bare)
 clear hok hok2 hS3 hob HOP HS HR2 HP2 HB2
 generalize (opA p ts).2 = so at *
 obtain ⟨X, hX⟩ : ∃ X, X = w3.alloc (.cells (opCells o) 39) := ⟨_, rfl⟩
 have HXO : Hid (Blk X w3.heap.size 39 (opCells o)) := hi_ (by rw [hX]; exact Blk.new _ _ _)
 have HBX : Hid (Below W.heap.size W X) := hi_ (by rw [hX]; exact below_alloc HB3.out _)
 have HB3X : Hid (Below w3.heap.size w3 X) := hi_ (by rw [hX]; exact below1 _ _)
 have HRX := hi_ (HR3.out.below HB3X.out HR3.out.lt)
 have HPX := hi_ (HP3.out.below HB3X.out HP3.out.lt)
 have HSX := hi_ (HS3.out.below HB3X.out)
 have HOX := hi_ (HOK.out.below HB3X.out)
 go_upto_region 6 with fail
 rw [← hX]
 clear hX HS3 HR3 HP3 HB3 HOK HB3X
 try simp only at HSX
 generalize endA ts so = se at *
 cases se with
 | bad e =>
  obtain ⟨bR, he⟩ := HSX.out.badc
  have HEN0 := hi_ he
  have HRR : Hid (R = (zeroO.bare, (e : Int))) := hi_ HRM2.out
  have c11 : X.cell? ⟨gR, 11, none⟩ = some (.int .i64 e) := bR.cell 11
  have he' : ((e : Int) != 0) = true := bne_iff_ne.2 (by omega)
  have HbR := hi_ bR
  have HCR := hi_ c11
  clear bR he he' HRM2 c11
  have he' : ((e : Int) != 0) = true := bne_iff_ne.2 (by have := HEN0.out; omega)
  have c11 : X.cell? ⟨gR, 11, none⟩ = some (.int .i64 e) := HCR.out
  go_upto_region 7 with fail
  clear c11
  refine wp_region_held_drew (S := (fun u => u.cell? ⟨gR, 11, none⟩ = some (.int .i64 e))) (by kernel_rfl) (HCR.out) (fun hHeld => ?_)
  refine wpAnyH_take (i := 0) (oi := { dst := some 32, op := Op.build 39 #[], type := 39, pos := "optext.go:205", after := #[], guard := none }) (v := ?a1_v0) rfl (by kernel_rfl) (by kernel_rfl) (by kernel_rfl) (fun _ _ _ h => h) (Or.inl ⟨by rfl, ?a1_y0⟩) (by assumption) ?a1_r0
  case a1_y0 => (intro w hSw; (try dsimp only at hSw); go_simp; try (with_reducible rfl))
  try simp only [Act.put, sA, sZ, sS]
  refine wpAnyH_take (i := 1) (oi := { dst := some 33, op := Op.move (Operand.tmp 9), type := 120, pos := "optext.go:205", after := #[{ on := 5, ground := Ground.gcOnly Departure.lateStores }], guard := none }) (v := ?a2_v1) rfl (by kernel_rfl) (by kernel_rfl) (by kernel_rfl) (fun _ _ _ h => h) (Or.inl ⟨by rfl, ?a2_y1⟩) (by assumption) ?a2_r1
  case a2_y1 => (intro w hSw; (try dsimp only at hSw); go_simp; try (with_reducible rfl))
  try simp only [Act.put, sA, sZ, sS]
  refine wpAnyH_take (i := 2) (oi := { dst := some 34, op := Op.nilCheck (Operand.tmp 33), type := 0, pos := "optext.go:205", after := #[{ on := 1, ground := Ground.data }, { on := 5, ground := Ground.gcOnly Departure.lateStores }], guard := none }) (v := ?a3_v2) rfl (by kernel_rfl) (by kernel_rfl) (by kernel_rfl) (fun _ _ _ h => h) (Or.inl ⟨by rfl, ?a3_y2⟩) (by assumption) ?a3_r2
  case a3_y2 => (intro w hSw; (try dsimp only at hSw); go_simp; try (with_reducible rfl))
  try simp only [Act.put, sA, sZ, sS]
  refine wpAnyH_take (i := 3) (oi := { dst := some 35, op := Op.fieldAddr 125 (Operand.tmp 34) 3, type := 0, pos := "optext.go:205", after := #[{ on := 2, ground := Ground.data }, { on := 5, ground := Ground.gcOnly Departure.lateStores }], guard := none }) (v := ?a4_v3) rfl (by kernel_rfl) (by kernel_rfl) (by kernel_rfl) (fun _ _ _ h => h) (Or.inl ⟨by rfl, ?a4_y3⟩) (by assumption) ?a4_r3
  case a4_y3 => (intro w hSw; (try dsimp only at hSw); go_simp; try (with_reducible rfl))
  try simp only [Act.put, sA, sZ, sS]
  refine wpAnyH_take (i := 4) (oi := { dst := some 36, op := Op.load 43 (Operand.tmp 35), type := 43, pos := "optext.go:205", after := #[{ on := 3, ground := Ground.data }, { on := 5, ground := Ground.gcOnly Departure.lateStores }], guard := none }) (v := ?a5_v4) rfl (by kernel_rfl) (by kernel_rfl) (by kernel_rfl) (fun _ _ _ h => h) (Or.inl ⟨by rfl, ?a5_y4⟩) (by assumption) ?a5_r4
  case a5_y4 => (intro w hSw; (try dsimp only at hSw); go_simp; try (with_reducible rfl))
  try simp only [Act.put, sA, sZ, sS]
  refine wpAnyH_ready (rs := [5]) (by kernel_rfl) (by simp) ?_
  refine AllReadyH.cons (o := { dst := none, op := Op.store 39 (Operand.tmp 4) (Operand.tmp 32), type := 0, pos := "optext.go:205", after := #[{ on := 0, ground := Ground.data }, { on := 0, ground := Ground.phase }, { on := 1, ground := Ground.textOnly Departure.lateStores }, { on := 2, ground := Ground.textOnly Departure.lateStores }, { on := 3, ground := Ground.textOnly Departure.lateStores }, { on := 4, ground := Ground.textOnly Departure.lateStores }], guard := none }) rfl (fun K hK => ?_) (AllReadyH.nil)
  have q0 : X.cell? ⟨w.heap.size + 1, 0, none⟩ = some (.int .i64 0) := HRX.out.cell 0
  have g0 : X.frozen? ⟨w.heap.size + 1, 0, none⟩ = false := HRX.out.frozen 0
  have q1 : X.cell? ⟨w.heap.size + 1, 1, none⟩ = some (.int .i64 0) := HRX.out.cell 1
  have g1 : X.frozen? ⟨w.heap.size + 1, 1, none⟩ = false := HRX.out.frozen 1
  have q2 : X.cell? ⟨w.heap.size + 1, 2, none⟩ = some (.int .i64 0) := HRX.out.cell 2
  have g2 : X.frozen? ⟨w.heap.size + 1, 2, none⟩ = false := HRX.out.frozen 2
  have q3 : X.cell? ⟨w.heap.size + 1, 3, none⟩ = some (.slice none 0 0) := HRX.out.cell 3
  have g3 : X.frozen? ⟨w.heap.size + 1, 3, none⟩ = false := HRX.out.frozen 3
  have q4 : X.cell? ⟨w.heap.size + 1, 4, none⟩ = some (.int .i64 0) := HRX.out.cell 4
  have g4 : X.frozen? ⟨w.heap.size + 1, 4, none⟩ = false := HRX.out.frozen 4
  have q5 : X.cell? ⟨w.heap.size + 1, 5, none⟩ = some (.int .i64 0) := HRX.out.cell 5
  have g5 : X.frozen? ⟨w.heap.size + 1, 5, none⟩ = false := HRX.out.frozen 5
  have q6 : X.cell? ⟨w.heap.size + 1, 6, none⟩ = some (.slice none 0 0) := HRX.out.cell 6
  have g6 : X.frozen? ⟨w.heap.size + 1, 6, none⟩ = false := HRX.out.frozen 6
  have q7 : X.cell? ⟨w.heap.size + 1, 7, none⟩ = some (.int .i64 0) := HRX.out.cell 7
  have g7 : X.frozen? ⟨w.heap.size + 1, 7, none⟩ = false := HRX.out.frozen 7
  have q8 : X.cell? ⟨w.heap.size + 1, 8, none⟩ = some (.slice none 0 0) := HRX.out.cell 8
  have g8 : X.frozen? ⟨w.heap.size + 1, 8, none⟩ = false := HRX.out.frozen 8
  have hfar : Blk ((((((((((X.setCell ⟨w.heap.size + 1, 0, none⟩ (.int .i64 0)).setCell ⟨w.heap.size + 1, 1, none⟩ (.int .i64 0)).setCell ⟨w.heap.size + 1, 2, none⟩ (.int .i64 0)).setCell ⟨w.heap.size + 1, 3, none⟩ (.slice none 0 0)).setCell ⟨w.heap.size + 1, 4, none⟩ (.int .i64 0)).setCell ⟨w.heap.size + 1, 5, none⟩ (.int .i64 0)).setCell ⟨w.heap.size + 1, 6, none⟩ (.slice none 0 0)).setCell ⟨w.heap.size + 1, 7, none⟩ (.int .i64 0)).setCell ⟨w.heap.size + 1, 8, none⟩ (.slice none 0 0)).drew) gR 125 (orCells ⟨gR, gA, gL, ⟨ts, A, c⟩, p⟩ e) := Blk.drew (far9 (k := w.heap.size + 1) HbR.out (by have := HNE.out; simp only; omega) (.int .i64 0) (.int .i64 0) (.int .i64 0) (.slice none 0 0) (.int .i64 0) (.int .i64 0) (.slice none 0 0) (.int .i64 0) (.slice none 0 0))
  have hNEW := hfar.cell 11
  clear hfar
  go_simp
  refine hK.out _ _ hNEW (fun hHeld7 => ?_)
  clear hK K hNEW
  refine wpAnyH_take (i := 6) (oi := { dst := some 5, op := Op.assign (Operand.tmp 36), type := 43, pos := "optext.go:205", after := #[{ on := 4, ground := Ground.data }, { on := 5, ground := Ground.chain }, { on := 0, ground := Ground.phase }, { on := 1, ground := Ground.phase }, { on := 2, ground := Ground.phase }, { on := 3, ground := Ground.phase }, { on := 4, ground := Ground.phase }, { on := 5, ground := Ground.phase }], guard := none }) (v := ?a6_v6) rfl (by kernel_rfl) (by kernel_rfl) (by kernel_rfl) (fun _ _ _ h => h) (Or.inl ⟨by rfl, ?a6_y6⟩) (by assumption) ?a6_r6
  case a6_y6 => (intro w hSw; (try dsimp only at hSw); go_simp; try (with_reducible rfl))
  try simp only [Act.put, sA, sZ, sS]
  refine wpAnyH_done (by kernel_rfl) ?_ _
  go_wp2
  refine bodyPost_ret (v := .tuple #[.agg (opCells zeroO), .int .i64 e]) ?_ rfl ?_
  · exact results_row_tmp (fn := Tryz.f28) (p := 4) (u := 5) (ty := 39) rfl _ _ (w.heap.size + 1) 39 (opCells zeroO) _ rfl (put9O HRX.out _ _ _ _ _ _ _ _ _).drew Tryz.underlying39 rfl (by kernel_rfl)
  · exact parse_drew (parse_end (o := zeroO) (by rw [HRR.out]) (below_step HW.out HBX.out) (zero_lies _ _) _ _ _ _ _ _ _ _ _)
 | ok i =>
  obtain ⟨bR, bA, hi1⟩ := HSX.out.okc
  have c11 : X.cell? ⟨gR, 11, none⟩ = some (.int .i64 0) := bR.cell 11
  clear bR bA hi1
  have hp3 : ∀ i, X.cell? ⟨w.heap.size, i, none⟩ = (progCells p)[i]? := fun i => HPX.out.cell i
  have ho3 : ∀ i, X.cell? ⟨w3.heap.size, i, none⟩ = (opCells o)[i]? := fun i => HXO.out.cell i
  have HFo := hi_ (oformat_any p o X (HG.out.ok.below HBX.out) HC.out HG.out.cap.dflt HOX.out.ok HFN.out (HT.out.base HBX.out))
  try simp only at HRM2
  generalize fmtOp p o.bare = F at *
  generalize opChk p o.bare = z at *
  generalize opT p o.bare = T at *
  go_wp2_with fail
  refine HFo.out.mono ?_
  rintro e4 w4 ⟨rfl, hb4⟩
  have HB4 := hi_ (below_step HBX.out hb4)
  have HR4 := hi_ (HRX.out.below hb4 HRX.out.lt)
  have HO4 := hi_ (HXO.out.below hb4 HXO.out.lt)
  have HK4 := hi_ (HOX.out.below hb4)
  clear hb4 HFo c11 hp3 ho3 HRX HXO HOX HPX HSX
  by_cases hz : z = 0
  ·
   have HF2 : Hid (F = (T, 0)) := tr_ HFM (if_neg (fun h => h hz))
   replace HRM2 := tr_ HRM2 (if_neg (fun h => h hz))
   rw [HF2.out]
   clear hz HFM HF2
   by_cases htx : T = s.data.toList
   ·
    have HRR : Hid (R = (o.bare, 0)) := tr_ HRM2 (if_neg (fun h => h htx))
    subst htx
    have hst : ((⟨s.data.toList.toArray⟩ : ByteArray)) = s := rfl
    rw [hst]
    clear HRM2 hst
    obtain ⟨kd, tb, id, ⟨kl, kA, kc⟩, pr, ea, ⟨el, eA, ec⟩, ca, ⟨cl, cA, cc⟩⟩ := o
    have d0 : w4.cell? ⟨w3.heap.size, 0, none⟩ = some (.int .i64 kd) := HO4.out.cell 0
    have d1 : w4.cell? ⟨w3.heap.size, 1, none⟩ = some (.int .i64 tb) := HO4.out.cell 1
    have d2 : w4.cell? ⟨w3.heap.size, 2, none⟩ = some (.int .i64 id) := HO4.out.cell 2
    have d3 : w4.cell? ⟨w3.heap.size, 3, none⟩ = some (.slice kA kl.length kc) := HO4.out.cell 3
    have d4 : w4.cell? ⟨w3.heap.size, 4, none⟩ = some (.int .i64 pr) := HO4.out.cell 4
    have d5 : w4.cell? ⟨w3.heap.size, 5, none⟩ = some (.int .i64 ea) := HO4.out.cell 5
    have d6 : w4.cell? ⟨w3.heap.size, 6, none⟩ = some (.slice eA el.length ec) := HO4.out.cell 6
    have d7 : w4.cell? ⟨w3.heap.size, 7, none⟩ = some (.int .i64 ca) := HO4.out.cell 7
    have d8 : w4.cell? ⟨w3.heap.size, 8, none⟩ = some (.slice cA cl.length cc) := HO4.out.cell 8
    have q0 : w4.cell? ⟨w.heap.size + 1, 0, none⟩ = some (.int .i64 0) := HR4.out.cell 0
    have g0 : w4.frozen? ⟨w.heap.size + 1, 0, none⟩ = false := HR4.out.frozen 0
    have q1 : w4.cell? ⟨w.heap.size + 1, 1, none⟩ = some (.int .i64 0) := HR4.out.cell 1
    have g1 : w4.frozen? ⟨w.heap.size + 1, 1, none⟩ = false := HR4.out.frozen 1
    have q2 : w4.cell? ⟨w.heap.size + 1, 2, none⟩ = some (.int .i64 0) := HR4.out.cell 2
    have g2 : w4.frozen? ⟨w.heap.size + 1, 2, none⟩ = false := HR4.out.frozen 2
    have q3 : w4.cell? ⟨w.heap.size + 1, 3, none⟩ = some (.slice none 0 0) := HR4.out.cell 3
    have g3 : w4.frozen? ⟨w.heap.size + 1, 3, none⟩ = false := HR4.out.frozen 3
    have q4 : w4.cell? ⟨w.heap.size + 1, 4, none⟩ = some (.int .i64 0) := HR4.out.cell 4
    have g4 : w4.frozen? ⟨w.heap.size + 1, 4, none⟩ = false := HR4.out.frozen 4
    have q5 : w4.cell? ⟨w.heap.size + 1, 5, none⟩ = some (.int .i64 0) := HR4.out.cell 5
    have g5 : w4.frozen? ⟨w.heap.size + 1, 5, none⟩ = false := HR4.out.frozen 5
    have q6 : w4.cell? ⟨w.heap.size + 1, 6, none⟩ = some (.slice none 0 0) := HR4.out.cell 6
    have g6 : w4.frozen? ⟨w.heap.size + 1, 6, none⟩ = false := HR4.out.frozen 6
    have q7 : w4.cell? ⟨w.heap.size + 1, 7, none⟩ = some (.int .i64 0) := HR4.out.cell 7
    have g7 : w4.frozen? ⟨w.heap.size + 1, 7, none⟩ = false := HR4.out.frozen 7
    have q8 : w4.cell? ⟨w.heap.size + 1, 8, none⟩ = some (.slice none 0 0) := HR4.out.cell 8
    have g8 : w4.frozen? ⟨w.heap.size + 1, 8, none⟩ = false := HR4.out.frozen 8
    go_wp2
    refine bodyPost_ret (v := .tuple #[.agg (opCells ⟨kd, tb, id, ⟨kl, kA, kc⟩, pr, ea, ⟨el, eA, ec⟩, ca, ⟨cl, cA, cc⟩⟩), .int .i64 0]) ?_ rfl ?_
    · exact results_row_tmp (fn := Tryz.f28) (p := 4) (u := 5) (ty := 39) rfl _ _ (w.heap.size + 1) 39 (opCells ⟨kd, tb, id, ⟨kl, kA, kc⟩, pr, ea, ⟨el, eA, ec⟩, ca, ⟨cl, cA, cc⟩⟩) _ rfl (put9O HR4.out _ _ _ _ _ _ _ _ _) Tryz.underlying39 rfl (by kernel_rfl)
    · exact parse_end (o := ⟨kd, tb, id, ⟨kl, kA, kc⟩, pr, ea, ⟨el, eA, ec⟩, ca, ⟨cl, cA, cc⟩⟩) (by rw [HRR.out]) (below_step HW.out HB4.out) HK4.out _ _ _ _ _ _ _ _ _
   ·
    have HRR : Hid (R = (zeroO.bare, 23)) := tr_ HRM2 (if_pos htx)
    have hq1 : (T == s.toList) = false := by rw [tx_eq, decide_eq_false htx]
    have hq2 : (T != s.toList) = true := by rw [bne, hq1]; rfl
    clear HRM2 htx
    have q0 : w4.cell? ⟨w.heap.size + 1, 0, none⟩ = some (.int .i64 0) := HR4.out.cell 0
    have g0 : w4.frozen? ⟨w.heap.size + 1, 0, none⟩ = false := HR4.out.frozen 0
    have q1 : w4.cell? ⟨w.heap.size + 1, 1, none⟩ = some (.int .i64 0) := HR4.out.cell 1
    have g1 : w4.frozen? ⟨w.heap.size + 1, 1, none⟩ = false := HR4.out.frozen 1
    have q2 : w4.cell? ⟨w.heap.size + 1, 2, none⟩ = some (.int .i64 0) := HR4.out.cell 2
    have g2 : w4.frozen? ⟨w.heap.size + 1, 2, none⟩ = false := HR4.out.frozen 2
    have q3 : w4.cell? ⟨w.heap.size + 1, 3, none⟩ = some (.slice none 0 0) := HR4.out.cell 3
    have g3 : w4.frozen? ⟨w.heap.size + 1, 3, none⟩ = false := HR4.out.frozen 3
    have q4 : w4.cell? ⟨w.heap.size + 1, 4, none⟩ = some (.int .i64 0) := HR4.out.cell 4
    have g4 : w4.frozen? ⟨w.heap.size + 1, 4, none⟩ = false := HR4.out.frozen 4
    have q5 : w4.cell? ⟨w.heap.size + 1, 5, none⟩ = some (.int .i64 0) := HR4.out.cell 5
    have g5 : w4.frozen? ⟨w.heap.size + 1, 5, none⟩ = false := HR4.out.frozen 5
    have q6 : w4.cell? ⟨w.heap.size + 1, 6, none⟩ = some (.slice none 0 0) := HR4.out.cell 6
    have g6 : w4.frozen? ⟨w.heap.size + 1, 6, none⟩ = false := HR4.out.frozen 6
    have q7 : w4.cell? ⟨w.heap.size + 1, 7, none⟩ = some (.int .i64 0) := HR4.out.cell 7
    have g7 : w4.frozen? ⟨w.heap.size + 1, 7, none⟩ = false := HR4.out.frozen 7
    have q8 : w4.cell? ⟨w.heap.size + 1, 8, none⟩ = some (.slice none 0 0) := HR4.out.cell 8
    have g8 : w4.frozen? ⟨w.heap.size + 1, 8, none⟩ = false := HR4.out.frozen 8
    go_wp2
    refine bodyPost_ret (v := .tuple #[.agg (opCells zeroO), .int .i64 23]) ?_ rfl ?_
    · exact results_row_tmp (fn := Tryz.f28) (p := 4) (u := 5) (ty := 39) rfl _ _ (w.heap.size + 1) 39 (opCells zeroO) _ rfl (put9O HR4.out _ _ _ _ _ _ _ _ _) Tryz.underlying39 rfl (by kernel_rfl)
    · exact parse_end (o := zeroO) (by rw [HRR.out]) (below_step HW.out HB4.out) (zero_lies _ _) _ _ _ _ _ _ _ _ _
  ·
   have HF2 : Hid (F = ([], z)) := tr_ HFM (if_pos hz)
   have HRR : Hid (R = (zeroO.bare, z)) := tr_ HRM2 (if_pos hz)
   have hz' : (z != 0) = true := bne_iff_ne.2 hz
   rw [HF2.out]
   clear hz HFM HF2 HRM2
   have q0 : w4.cell? ⟨w.heap.size + 1, 0, none⟩ = some (.int .i64 0) := HR4.out.cell 0
   have g0 : w4.frozen? ⟨w.heap.size + 1, 0, none⟩ = false := HR4.out.frozen 0
   have q1 : w4.cell? ⟨w.heap.size + 1, 1, none⟩ = some (.int .i64 0) := HR4.out.cell 1
   have g1 : w4.frozen? ⟨w.heap.size + 1, 1, none⟩ = false := HR4.out.frozen 1
   have q2 : w4.cell? ⟨w.heap.size + 1, 2, none⟩ = some (.int .i64 0) := HR4.out.cell 2
   have g2 : w4.frozen? ⟨w.heap.size + 1, 2, none⟩ = false := HR4.out.frozen 2
   have q3 : w4.cell? ⟨w.heap.size + 1, 3, none⟩ = some (.slice none 0 0) := HR4.out.cell 3
   have g3 : w4.frozen? ⟨w.heap.size + 1, 3, none⟩ = false := HR4.out.frozen 3
   have q4 : w4.cell? ⟨w.heap.size + 1, 4, none⟩ = some (.int .i64 0) := HR4.out.cell 4
   have g4 : w4.frozen? ⟨w.heap.size + 1, 4, none⟩ = false := HR4.out.frozen 4
   have q5 : w4.cell? ⟨w.heap.size + 1, 5, none⟩ = some (.int .i64 0) := HR4.out.cell 5
   have g5 : w4.frozen? ⟨w.heap.size + 1, 5, none⟩ = false := HR4.out.frozen 5
   have q6 : w4.cell? ⟨w.heap.size + 1, 6, none⟩ = some (.slice none 0 0) := HR4.out.cell 6
   have g6 : w4.frozen? ⟨w.heap.size + 1, 6, none⟩ = false := HR4.out.frozen 6
   have q7 : w4.cell? ⟨w.heap.size + 1, 7, none⟩ = some (.int .i64 0) := HR4.out.cell 7
   have g7 : w4.frozen? ⟨w.heap.size + 1, 7, none⟩ = false := HR4.out.frozen 7
   have q8 : w4.cell? ⟨w.heap.size + 1, 8, none⟩ = some (.slice none 0 0) := HR4.out.cell 8
   have g8 : w4.frozen? ⟨w.heap.size + 1, 8, none⟩ = false := HR4.out.frozen 8
   go_wp2
   refine bodyPost_ret (v := .tuple #[.agg (opCells zeroO), .int .i64 z]) ?_ rfl ?_
   · exact results_row_tmp (fn := Tryz.f28) (p := 4) (u := 5) (ty := 39) rfl _ _ (w.heap.size + 1) 39 (opCells zeroO) _ rfl (put9O HR4.out _ _ _ _ _ _ _ _ _) Tryz.underlying39 rfl (by kernel_rfl)
   · exact parse_end (o := zeroO) (by rw [HRR.out]) (below_step HW.out HB4.out) (zero_lies _ _) _ _ _ _ _ _ _ _ _
theorem rapplies_any (x : CtlD) (w : World) : Calls Tryz.prog 264 #[.agg (ctlCells x)] w fun e w' => e = .returned (.bool (appliesM x)) ∧ Below w.heap.size w w' := by
 have HR := hi_ (appliesM.eq_1 x)
 by_cases h1 : x.kind = 1
 ·
  have HR2 : Hid (appliesM x = true) := hi_ (by rw [HR.out, h1]; rfl)
  have h1' : (x.kind == 1) = true := beq_iff_eq.2 h1
  clear h1
  go_enter Tryz.func264, Tryz.ntmps264
  go_wp2
  go_ret
  exact ⟨by rw [HR2.out]; rfl, below1 _ _⟩
 ·
  have h1' : (x.kind == 1) = false := bf_ h1
  by_cases h2 : x.kind = 3
  ·
   have HR2 : Hid (appliesM x = true) := hi_ (by rw [HR.out, h2]; rfl)
   have h2' : (x.kind == 3) = true := beq_iff_eq.2 h2
   clear h1 h2
   go_enter Tryz.func264, Tryz.ntmps264
   go_wp2
   go_ret
   exact ⟨by rw [HR2.out]; rfl, below1 _ _⟩
  ·
   have HR2 : Hid (appliesM x = false) := hi_ (by rw [HR.out]; simp [h1, h2])
   have h2' : (x.kind == 3) = false := bf_ h2
   clear h1 h2
   go_enter Tryz.func264, Tryz.ntmps264
   go_wp2
   go_ret
   exact ⟨by rw [HR2.out]; rfl, below1 _ _⟩
def hitsM (t : Int) (x : CtlD) : Bool := appliesM x && decide (x.table = t)
theorem used_hits {l : List CtlD} {k : Nat} {t : Int} (hk : k ≤ l.length) : t ∈ usedM (l.take k) ↔ ∃ j, ∃ h : j < l.length, j < k ∧ hitsM t l[j] = true := by
 rw [usedM, List.mem_map]
 constructor
 ·
  rintro ⟨y, hy, e⟩
  obtain ⟨h1, h2⟩ := List.mem_filter.1 hy
  obtain ⟨j, hj, e2⟩ := List.mem_take_iff_getElem.1 h1
  refine ⟨j, by omega, by omega, ?_⟩
  rw [hitsM, e2, h2, e]; simp
 ·
  rintro ⟨j, hj, hjk, h⟩
  rw [hitsM, Bool.and_eq_true, decide_eq_true_eq] at h
  exact ⟨l[j], List.mem_filter.2 ⟨List.mem_take_iff_getElem.2 ⟨j, by omega, rfl⟩, h.1⟩, h.2⟩
def appM (l : List CtlD) (i : Nat) (t : Int) : Bool := decide (t ∈ usedM (l.take i))
theorem appM_iff (l : List CtlD) (i : Nat) (t : Int) : appM l i t = true ↔ t ∈ usedM (l.take i) := by rw [appM, decide_eq_true_eq]
set_option linter.unusedSimpArgs false in
theorem rapplied_any (x : L CtlD) (at_ : Nat) (w : World) (h : LOk w 5 CtlD.cells x) (ha : at_ < x.l.length) :
  Calls Tryz.prog 239 #[.slice x.A x.l.length x.c, .int .i64 at_] w fun e w' => e = .returned (.bool (appM x.l at_ x.l[at_].table)) ∧ Below w.heap.size w w' := by
 obtain ⟨l, A0, c0⟩ := x
 have HX := hi_ h
 have hmx : l.length ≤ 9223372036854775807 := h.1
 clear h
 simp only at ha hmx ⊢
 have HU := hi_ ((appM_iff l at_ l[at_].table).trans (used_hits (l := l) (k := at_) (t := l[at_].table) (by omega)))
 obtain ⟨g, of, hA, hall⟩ := CtlD.allA HX.out (show 0 < l.length by omega)
 simp only at hA hall
 subst hA
 have HAL := hi_ hall
 have HAt := hi_ (fun w' h => (hall w' h at_ ha).2.1)
 clear hall
 generalize l[at_].table = t at *
 go_enter Tryz.func239, Tryz.ntmps239
 go_wp2
 go_loopw [5] (fun iv wr => ∃ k : Nat, k ≤ at_ ∧ iv = .int .i64 k ∧ Hid (∀ j (hj : j < l.length), j < k → hitsM t l[j] = false) ∧ Below w.heap.size w wr) (fun i _ => at_ - (intOf i).toNat)
 case atStart => exact ⟨0, Nat.zero_le _, rfl, hi_ (fun j _ hj => absurd hj (Nat.not_lt_zero _)), Below.refl _ _⟩
 case round =>
 obtain ⟨k, hk, rfl, HK, HB⟩ := hrel
 by_cases hlt : k < at_
 ·
  have hkl : k < l.length := by omega
  have hq1 := fun w' (h : Below wr.heap.size wr w') => HAL.out w' (below_step HB h) k hkl
  have hq2 := fun w' (h : Below wr.heap.size wr w') => HAt.out w' (below_step HB h)
  have HYes : Hid (hitsM t l[k] = true → appM l at_ t = true) := hi_ (fun e => HU.out.2 ⟨k, hkl, hlt, e⟩)
  have HNo : Hid (hitsM t l[k] = false → ∀ j (hj : j < l.length), j < k + 1 → hitsM t l[j] = false) := hi_ (fun e j hj hjk => by
   rcases Nat.lt_succ_iff_lt_or_eq.1 hjk with h1 | rfl
   · exact HK.out j hj h1
   · exact e)
  have hn1 : (k : Int) < (l.length : Int) := by omega
  have hn2 : (at_ : Int) < (l.length : Int) := by omega
  have HAp : Hid (∀ u, Calls Tryz.prog 264 #[.agg (ctlCells l[k])] u fun e w' => e = .returned (.bool (appliesM l[k])) ∧ Below u.heap.size u w') := hi_ (fun u => rapplies_any l[k] u)
  generalize l[k] = y at *
  have HVV := hi_ HB
  have H0 := hi_ (Below.refl wr.heap.size wr)
  clear HB
  have HHt := hi_ (hitsM.eq_1 t y)
  cases hap : appliesM y
  ·
   have HZ := hi_ (HNo.out (by rw [HHt.out, hap]; rfl))
   rw [hap] at HAp
   clear HYes HNo
   have hq3 := hq1 wr H0.out
   go_wp2
   refine wp_region_held_drew (S := fun w' => Below wr.heap.size wr w') (by kernel_rfl) (below_drew H0.out) (fun hHeld => ?_)
   refine wpAnyH_take (i := 0) (oi := { dst := some 11, op := .move (.tmp 0), type := 28, pos := "ref.go:65", after := #[], guard := none }) (v := ?v0) rfl (by kernel_rfl) (by kernel_rfl) (by kernel_rfl) (fun _ _ _ h => h) (Or.inl ⟨by rfl, ?y0⟩) (by assumption) ?r0
   case y0 => (intro w hSw; (try dsimp only at hSw); go_simp; try (with_reducible rfl))
   try simp only [Act.put, sA, sZ, sS]
   refine wpAnyH_take (i := 1) (oi := { dst := some 12, op := .move (.tmp 5), type := 3, pos := "ref.go:65", after := #[], guard := none }) (v := ?v1) rfl (by kernel_rfl) (by kernel_rfl) (by kernel_rfl) (fun _ _ _ h => h) (Or.inl ⟨by rfl, ?y1⟩) (by assumption) ?r1
   case y1 => (intro w hSw; (try dsimp only at hSw); go_simp; try (with_reducible rfl))
   try simp only [Act.put, sA, sZ, sS]
   refine wpAnyH_take (i := 2) (oi := { dst := some 13, op := .indexAddr 28 (.tmp 11) (.tmp 12), type := 0, pos := "ref.go:65", after := #[{ on := 0, ground := .data }, { on := 1, ground := .data }], guard := none }) (v := ?v2) rfl (by kernel_rfl) (by kernel_rfl) (by kernel_rfl) (fun _ _ _ h => h) (Or.inl ⟨by rfl, ?y2⟩) (by assumption) ?r2
   case y2 => (intro w hSw; (try dsimp only at hSw); go_simp; try (with_reducible rfl))
   try simp only [Act.put, sA, sZ, sS]
   refine wpAnyH_take (i := 3) (oi := { dst := some 14, op := .load 102 (.tmp 13), type := 102, pos := "ref.go:65", after := #[{ on := 2, ground := .data }], guard := none }) (v := ?v3) rfl (by kernel_rfl) (by kernel_rfl) (by kernel_rfl) (fun _ _ _ h => h) (Or.inl ⟨by rfl, ?y3⟩) (by assumption) ?r3
   case y3 => (intro w hSw; (try dsimp only at hSw); go_simp; try (with_reducible rfl))
   try simp only [Act.put, sA, sZ, sS]
   refine wpAnyH_ready (rs := [4]) (by kernel_rfl) (by simp) ?_
   refine AllReadyH.cons (o := { dst := some 15, op := .call { callee := .value (.func 264), args := #[.tmp 14], argTypes := #[102] }, type := 4, pos := "ref.go:65", after := #[{ on := 3, ground := .data }], guard := none }) rfl (fun K hK => ?_) AllReadyH.nil
   go_simp
   go_at_call 264
   refine (HAp.out _).mono ?_
   rintro e w1 ⟨rfl, hb1⟩
   refine hK.out _ _ (below_step hHeld hb1) (fun hHeld2 => ?_)
   clear hK K
   try simp only [Act.put, sA, sZ, sS]
   refine wpAnyH_take (i := 5) (oi := { dst := some 16, op := .move (.tmp 15), type := 4, pos := "ref.go:65", after := #[{ on := 4, ground := .data }, { on := 4, ground := .chain }], guard := none }) (v := ?v5) rfl (by kernel_rfl) (by kernel_rfl) (by kernel_rfl) (fun _ _ _ h => h) (Or.inl ⟨by rfl, ?y5⟩) (by assumption) ?r5
   case y5 => (intro w hSw; (try dsimp only at hSw); go_simp; try (with_reducible rfl))
   try simp only [Act.put, sA, sZ, sS]
   refine wpAnyH_take (i := 6) (oi := { dst := some 17, op := .move (.tmp 0), type := 28, pos := "ref.go:65", after := #[{ on := 5, ground := .guard }], guard := some (5, true) }) (v := undef) rfl (by kernel_rfl) (by kernel_rfl) (by kernel_rfl) (fun _ _ _ h => h) (Or.inr ⟨by rfl, rfl⟩) (by assumption) ?_
   try simp only [Act.put, sA, sZ, sS]
   refine wpAnyH_take (i := 7) (oi := { dst := some 18, op := .move (.tmp 5), type := 3, pos := "ref.go:65", after := #[{ on := 5, ground := .guard }], guard := some (5, true) }) (v := undef) rfl (by kernel_rfl) (by kernel_rfl) (by kernel_rfl) (fun _ _ _ h => h) (Or.inr ⟨by rfl, rfl⟩) (by assumption) ?_
   try simp only [Act.put, sA, sZ, sS]
   refine wpAnyH_take (i := 8) (oi := { dst := some 19, op := .indexAddr 28 (.tmp 17) (.tmp 18), type := 0, pos := "ref.go:65", after := #[{ on := 6, ground := .data }, { on := 7, ground := .data }, { on := 5, ground := .guard }], guard := some (5, true) }) (v := undef) rfl (by kernel_rfl) (by kernel_rfl) (by kernel_rfl) (fun _ _ _ h => h) (Or.inr ⟨by rfl, rfl⟩) (by assumption) ?_
   try simp only [Act.put, sA, sZ, sS]
   refine wpAnyH_take (i := 9) (oi := { dst := some 20, op := .fieldAddr 102 (.tmp 19) 1, type := 0, pos := "ref.go:65", after := #[{ on := 8, ground := .data }, { on := 5, ground := .guard }], guard := some (5, true) }) (v := undef) rfl (by kernel_rfl) (by kernel_rfl) (by kernel_rfl) (fun _ _ _ h => h) (Or.inr ⟨by rfl, rfl⟩) (by assumption) ?_
   try simp only [Act.put, sA, sZ, sS]
   refine wpAnyH_take (i := 10) (oi := { dst := some 21, op := .load 3 (.tmp 20), type := 3, pos := "ref.go:65", after := #[{ on := 9, ground := .data }, { on := 5, ground := .guard }], guard := some (5, true) }) (v := undef) rfl (by kernel_rfl) (by kernel_rfl) (by kernel_rfl) (fun _ _ _ h => h) (Or.inr ⟨by rfl, rfl⟩) (by assumption) ?_
   try simp only [Act.put, sA, sZ, sS]
   refine wpAnyH_take (i := 11) (oi := { dst := some 22, op := .move (.tmp 0), type := 28, pos := "ref.go:65", after := #[{ on := 5, ground := .guard }], guard := some (5, true) }) (v := undef) rfl (by kernel_rfl) (by kernel_rfl) (by kernel_rfl) (fun _ _ _ h => h) (Or.inr ⟨by rfl, rfl⟩) (by assumption) ?_
   try simp only [Act.put, sA, sZ, sS]
   refine wpAnyH_take (i := 12) (oi := { dst := some 23, op := .move (.tmp 1), type := 3, pos := "ref.go:65", after := #[{ on := 5, ground := .guard }], guard := some (5, true) }) (v := undef) rfl (by kernel_rfl) (by kernel_rfl) (by kernel_rfl) (fun _ _ _ h => h) (Or.inr ⟨by rfl, rfl⟩) (by assumption) ?_
   try simp only [Act.put, sA, sZ, sS]
   refine wpAnyH_take (i := 13) (oi := { dst := some 24, op := .indexAddr 28 (.tmp 22) (.tmp 23), type := 0, pos := "ref.go:65", after := #[{ on := 11, ground := .data }, { on := 12, ground := .data }, { on := 5, ground := .guard }], guard := some (5, true) }) (v := undef) rfl (by kernel_rfl) (by kernel_rfl) (by kernel_rfl) (fun _ _ _ h => h) (Or.inr ⟨by rfl, rfl⟩) (by assumption) ?_
   try simp only [Act.put, sA, sZ, sS]
   refine wpAnyH_take (i := 14) (oi := { dst := some 25, op := .fieldAddr 102 (.tmp 24) 1, type := 0, pos := "ref.go:65", after := #[{ on := 13, ground := .data }, { on := 5, ground := .guard }], guard := some (5, true) }) (v := undef) rfl (by kernel_rfl) (by kernel_rfl) (by kernel_rfl) (fun _ _ _ h => h) (Or.inr ⟨by rfl, rfl⟩) (by assumption) ?_
   try simp only [Act.put, sA, sZ, sS]
   refine wpAnyH_take (i := 15) (oi := { dst := some 26, op := .load 3 (.tmp 25), type := 3, pos := "ref.go:65", after := #[{ on := 14, ground := .data }, { on := 5, ground := .guard }], guard := some (5, true) }) (v := undef) rfl (by kernel_rfl) (by kernel_rfl) (by kernel_rfl) (fun _ _ _ h => h) (Or.inr ⟨by rfl, rfl⟩) (by assumption) ?_
   try simp only [Act.put, sA, sZ, sS]
   refine wpAnyH_take (i := 16) (oi := { dst := some 27, op := .binOp .eql 3 (.tmp 21) (.tmp 26) 3, type := 4, pos := "ref.go:65", after := #[{ on := 10, ground := .data }, { on := 15, ground := .data }, { on := 5, ground := .guard }], guard := some (5, true) }) (v := undef) rfl (by kernel_rfl) (by kernel_rfl) (by kernel_rfl) (fun _ _ _ h => h) (Or.inr ⟨by rfl, rfl⟩) (by assumption) ?_
   try simp only [Act.put, sA, sZ, sS]
   refine wpAnyH_take (i := 17) (oi := { dst := some 28, op := .pick (.tmp 16) (.tmp 27) (.const (Value.bool false)), type := 4, pos := "ref.go:65", after := #[{ on := 5, ground := .data }, { on := 16, ground := .data }], guard := none }) (v := ?v17) rfl (by kernel_rfl) (by kernel_rfl) (by kernel_rfl) (fun _ _ _ h => h) (Or.inl ⟨by rfl, ?y17⟩) (by assumption) ?r17
   case y17 => (intro w hSw; (try dsimp only at hSw); go_simp; try (with_reducible rfl))
   try simp only [Act.put, sA, sZ, sS]
   refine wpAnyH_done (by kernel_rfl) ?_ _
   have HB5 : Hid (Below wr.heap.size wr _) := hi_ hHeld2
   go_wp2
   go_roundw
   case rel => exact ⟨k + 1, by omega, by go_num, HZ, below_step HVV.out HB5.out⟩
   case measure => simp [intOf]; omega
  ·
   rw [hap] at HAp
   by_cases ht : y.table = t
   ·
    have HZ := hi_ (HYes.out (by rw [HHt.out, hap, decide_eq_true ht]; rfl))
    have ht' : (y.table == t) = true := beq_iff_eq.2 ht
    clear HYes HNo ht
    go_wp2
    go_region_held3 (fun w' => Below wr.heap.size wr w') (first | exact H0.out | exact below_drew H0.out | (exact below_step (by assumption) (by assumption)) | assumption)
     (first | (go_at_call 264; refine (HAp.out _).mono ?_; rintro e w1 ⟨rfl, hb1⟩))
    have HB5 : Hid (Below wr.heap.size wr _) := hi_ (by assumption)
    go_wp2
    go_ret
    exact ⟨by rw [HZ.out]; rfl, below_step HVV.out HB5.out⟩
   ·
    have HZ := hi_ (HNo.out (by rw [HHt.out, hap, decide_eq_false ht]; rfl))
    have ht' : (y.table == t) = false := bf_ ht
    clear HYes HNo ht
    go_wp2
    go_region_held3 (fun w' => Below wr.heap.size wr w') (first | exact H0.out | exact below_drew H0.out | (exact below_step (by assumption) (by assumption)) | assumption)
     (first | (go_at_call 264; refine (HAp.out _).mono ?_; rintro e w1 ⟨rfl, hb1⟩))
    have HB5 : Hid (Below wr.heap.size wr _) := hi_ (by assumption)
    go_wp2
    go_roundw
    case rel => exact ⟨k + 1, by omega, by go_num, HZ, below_step HVV.out HB5.out⟩
    case measure => simp [intOf]; omega
 ·
  have e : k = at_ := by omega
  have HZ : Hid (appM l at_ t = false) := hi_ (by
   rw [← Bool.not_eq_true, HU.out]
   rintro ⟨j, hj, hjk, h⟩
   rw [HK.out j hj (by omega)] at h
   cases h)
  go_wp2
  go_ret
  exact ⟨by rw [HZ.out]; rfl, HB⟩
theorem rexprCheck_nil (p : ProgD) (x : L NodeD) (w : World) (o : ProgOk w p) (hx : LOk w 3 NodeD.cells x) :
  Calls Tryz.prog 235 #[.slice x.A x.l.length x.c, .agg (scopeCells p ⟨[], none, 0⟩)] w fun e w' => e = .returned (.tuple #[.int .i64 (exprM p [] x.l).1, .int .i64 (exprM p [] x.l).2]) ∧ Below w.heap.size w w' :=
 rexprCheck_any p ⟨[], none, 0⟩ x w o ⟨Nat.zero_le _, .inl rfl⟩ hx
theorem rcheckNode_any (p : ProgD) (x : L CtlD) (i : Nat) (w : World) (o : ProgOk w p) (h : LOk w 5 CtlD.cells x) (hi : i < x.l.length) (hx : LOk w 3 NodeD.cells x.l[i].cond) (hle : x.l[i].th.l.length + x.l[i].el.l.length ≤ 90000) :
  Calls Tryz.prog 186 #[.agg (progCells p), .slice x.A x.l.length x.c, .int .i64 i] w fun e w' => e = .returned (.int .i64 (nodeM p (usedM (x.l.take i)) x.l[i])) ∧ Below w.heap.size w w' := by
 obtain ⟨l, A0, c0⟩ := x
 simp only at hi hx hle ⊢
 have HO := hi_ o
 obtain ⟨W, hW, hw, HB, hp⟩ := box1 w (progCells p) 31
 have HW := hi_ hw
 have HX := hi_ (h.below hw (Nat.le_refl _))
 have HCd := hi_ (hx.below hw (Nat.le_refl _))
 have HAp := hi_ (fun u (hb : Below W.heap.size W u) => rapplied_any ⟨l, A0, c0⟩ i u (HX.out.below hb (Nat.le_refl _)) hi)
 obtain ⟨g, of, hA, hq⟩ := CtlD.atA HX.out hi
 have hn1 : (i : Int) < (l.length : Int) := by omega
 have HR := hi_ (nodeM_eq p (usedM (l.take i)) l[i])
 have HMm := hi_ (appM_iff l i l[i].table)
 clear o h hx hw
 simp only at hA HAp
 subst hA
 generalize usedM (l.take i) = us at *
 generalize l[i] = y at *
 obtain ⟨kd, tb, cd, tl, el, tA, eA, tc, ec⟩ := y
 simp only [CtlD.kind, CtlD.table, CtlD.cond, CtlD.th, CtlD.el] at hq HR HCd hle HAp HMm
 generalize appM l i tb = am at *
 go_enter Tryz.func186, Tryz.ntmps186
 go_upto_region 1 with fail
 rw [← hW]
 clear hW
 refine Exists.elim (box1 W #[.int .i64 kd, .int .i64 tb, .slice cd.A cd.l.length cd.c, .slice tA tl.length tc, .slice eA el.length ec] 102) ?_
 rintro U ⟨hU, hu, hUU, hc⟩
 go_upto_region 2 with fail
 rw [← hU]
 clear hU
 have HU := hi_ hu
 have hp2 := fun w' h => hp w' (below_step hu h)
 have hc3 := hc U hUU
 replace HB := hUU
 clear hp hUU hu hq
 by_cases k13 : kd = 1 ∨ kd = 3
 ·
  replace HR := tr_ HR (if_pos k13)
  have k2 : (kd == 2) = false := bf_ (by omega)
  have kk1 : ¬ kd < 1 := by omega
  have kk2 : ¬ 3 < kd := by omega
  have hcase : tb < 0 ∨ (0 ≤ tb ∧ (p.tables.l.length : Int) ≤ tb) ∨ (0 ≤ tb ∧ tb < (p.tables.l.length : Int)) := by omega
  have hp3 := hp2 U HB
  rcases hcase with h1 | ⟨h1, h2⟩ | ⟨h1, h2⟩
  ·
   replace HR := tr_ HR (if_pos (Or.inl h1))
   go_wp2
   go_ret
   exact ⟨by rw [HR.out]; rfl, below_step HW.out (below_step HU.out HB)⟩
  ·
   replace HR := tr_ HR (if_pos (Or.inr h2))
   go_wp2
   go_ret
   exact ⟨by rw [HR.out]; rfl, below_step HW.out (below_step HU.out HB)⟩
  replace HR := hi_ (HR.out.trans (if_neg (show ¬ (tb < 0 ∨ (p.tables.l.length : Int) ≤ tb) by omega)))
  go_wp2_with fail
  refine (HAp.out _ (below_step HU.out (by first | exact HB | exact ba1 HB | exact ba2 HB | exact ba3 HB))).mono ?_
  rintro e w1 ⟨rfl, hbN⟩
  replace HB := below_step (by first | exact HB | exact ba1 HB | exact ba2 HB | exact ba3 HB) hbN
  clear hbN
  clear hc3 hp3
  have hc3 := hc _ HB
  cases am
  case true =>
   replace HR := tr_ HR (if_pos (HMm.out.1 rfl))
   go_wp2
   go_ret
   exact ⟨by rw [HR.out]; rfl, below_step HW.out (below_step HU.out HB)⟩
  replace HR := tr_ HR (if_neg (fun h => by have := HMm.out.2 h; cases this))
  rcases k13 with rfl | rfl
  ·
   have hsum : ¬ ((0 : Int) < (tl.length : Int) + (el.length : Int)) ∨ (0 : Int) < (tl.length : Int) + (el.length : Int) := by omega
   have hwr : IntKind.i64.wrap ((tl.length : Int) + (el.length : Int)) = (tl.length : Int) + (el.length : Int) := IntWalk.i64_in _ (by omega)
   rcases hsum with hs | hs
   all_goals
    first
     | replace HR := hi_ (HR.out.trans (if_neg (show ¬ ((1 : Int) = 1 ∧ 0 < tl.length + el.length) by omega)))
     | replace HR := hi_ (HR.out.trans (if_pos (show ((1 : Int) = 1 ∧ 0 < tl.length + el.length) from ⟨rfl, by omega⟩)))
    go_wp2
    go_ret
    exact ⟨by rw [HR.out]; rfl, below_step HW.out (below_step HU.out HB)⟩
  ·
   replace HR := hi_ (HR.out.trans (if_neg (show ¬ ((3 : Int) = 1 ∧ 0 < tl.length + el.length) by omega)))
   go_wp2
   go_ret
   exact ⟨by rw [HR.out]; rfl, below_step HW.out (below_step HU.out HB)⟩
 replace HR := tr_ HR (if_neg k13)
 by_cases h2 : kd = 2
 ·
  subst h2
  replace HR := tr_ HR (if_pos rfl)
  have hp3 := hp2 U HB
  clear k13
  go_wp2_with fail
  refine (rexprCheck_nil p cd _ (HO.out.below (below_step HW.out (below_step HU.out (by first | exact HB | exact ba1 HB | exact ba2 HB | exact ba3 HB)))) (HCd.out.below (below_step HU.out (by first | exact HB | exact ba1 HB | exact ba2 HB | exact ba3 HB)) (Nat.le_refl _))).mono ?_
  rintro e w1 ⟨rfl, hbN⟩
  replace HB := below_step (by first | exact HB | exact ba1 HB | exact ba2 HB | exact ba3 HB) hbN
  clear hbN
  clear hc3 hp3
  by_cases k5 : (exprM p [] cd.l).2 = 0
  ·
   replace HR := tr_ HR (if_neg (fun h => h k5))
   have k5' : ((exprM p [] cd.l).2 == 0) = true := beq_iff_eq.2 k5
   have K5 := hi_ k5
   clear k5
   by_cases k6 : (exprM p [] cd.l).1 = 1
   ·
    replace HR := tr_ HR (if_neg (fun h => h k6))
    have k6' : ((exprM p [] cd.l).1 == 1) = true := beq_iff_eq.2 k6
    have k7 : ((exprM p [] cd.l).1 != 1) = false := by rw [bne, k6']; rfl
    clear k6
    go_wp2
    go_ret
    exact ⟨by rw [HR.out]; exact congrArg (fun x => Ending.returned (.int .i64 x)) K5.out, below_step HW.out (below_step HU.out HB)⟩
   ·
    have k6' : ((exprM p [] cd.l).1 == 1) = false := bf_ k6
    have k7 : ((exprM p [] cd.l).1 != 1) = true := by rw [bne, k6']; rfl
    replace HR := tr_ HR (if_pos k6)
    clear k6
    go_wp2
    go_ret
    exact ⟨by rw [HR.out]; rfl, below_step HW.out (below_step HU.out HB)⟩
  ·
   have k5' : ((exprM p [] cd.l).2 == 0) = false := bf_ k5
   replace HR := tr_ HR (if_pos k5)
   clear k5
   go_wp2
   go_ret
   exact ⟨by rw [HR.out]; rfl, below_step HW.out (below_step HU.out HB)⟩
 replace HR := tr_ HR (if_neg h2)
 have hcase : kd < 1 ∨ (¬ kd < 1 ∧ 3 < kd) := by omega
 clear k13 h2
 rcases hcase with h1 | ⟨h1, h2⟩
 all_goals
  go_wp2
  go_ret
  exact ⟨by rw [HR.out]; rfl, below_step HW.out (below_step HU.out HB)⟩
mutual
theorem pre_ok {w : World} : ∀ (x : CtlD), CtlOk w x → ∀ y ∈ preM x, CtlOk w y
 | .mk k t c th el tA eA tc ec, o, y, hy => by
  rw [preM] at hy
  rcases List.mem_cons.1 hy with rfl | hy
  · exact o
  ·
   rw [CtlOk] at o
   rcases List.mem_append.1 hy with h | h
   · exact pres_ok th o.2.2.2.1 y h
   · exact pres_ok el o.2.2.2.2 y h
theorem pres_ok {w : World} : ∀ (l : List CtlD), CtlsOk w l → ∀ y ∈ presM l, CtlOk w y
 | [], _, y, hy => by rw [presM] at hy; cases hy
 | x :: l, o, y, hy => by
  rw [presM] at hy
  rw [CtlsOk] at o
  rcases List.mem_append.1 hy with h | h
  · exact pre_ok x o.1 y h
  · exact pres_ok l o.2 y h
end
mutual
theorem pre_sub : ∀ (x : CtlD), ∀ y ∈ preM x, (preM y).length ≤ (preM x).length
 | .mk k t c th el tA eA tc ec, y, hy => by
  rw [preM] at hy
  rcases List.mem_cons.1 hy with rfl | hy
  · exact Nat.le_refl _
  ·
   rw [preM, List.length_cons, List.length_append]
   rcases List.mem_append.1 hy with h | h
   ·
    have := pres_sub th y h
    omega
   ·
    have := pres_sub el y h
    omega
theorem pres_sub : ∀ (l : List CtlD), ∀ y ∈ presM l, (preM y).length ≤ (presM l).length
 | [], y, hy => by rw [presM] at hy; cases hy
 | x :: l, y, hy => by
  rw [presM] at hy
  rw [presM, List.length_append]
  rcases List.mem_append.1 hy with h | h
  ·
   have := pre_sub x y h
   omega
  ·
   have := pres_sub l y h
   omega
end
theorem pres_kids {l : List CtlD} {y : CtlD} (h : y ∈ presM l) : y.th.l.length + y.el.l.length ≤ (presM l).length := by
 have h1 := pres_sub l y h
 rw [preM_eq, List.length_cons, List.length_append] at h1
 have h2 := pres_len y.th.l
 have h3 := pres_len y.el.l
 omega
theorem rcontrolCheck_any (p : ProgD) (w : World) (o : ProgOk w p) (hN : (presM p.control.l).length ≤ 90000) :
  Calls Tryz.prog 117 #[.agg (progCells p)] w fun e w' => e = .returned (.tuple #[.int .i64 (ctlM p).1, .int .i64 (ctlM p).2]) ∧ Below w.heap.size w w' := by
 have HO := hi_ o
 have HN := hi_ hN
 obtain ⟨W, hW, hw, HB, hp⟩ := box1 w (progCells p) 31
 have HW := hi_ hw
 have HR := hi_ (ctlM.eq_1 p)
 have HNe := hi_ (nest_le p.control.l)
 have hN0 : ((presM p.control.l).length : Int) ≤ 90000 := by omega
 have HS := hi_ (fun i (h : i < (presM p.control.l).length) => nodeAtM_at p (presM p.control.l) i (presM p.control.l)[i] (List.getElem?_eq_getElem h))
 have HK := hi_ (fun i (h : i < (presM p.control.l).length) => pres_kids (List.getElem_mem h))
 have HOk := hi_ (fun u (ou : CtlsOk u p.control.l) i (h : i < (presM p.control.l).length) => (ctl_parts (pres_ok p.control.l ou _ (List.getElem_mem h))).1)
 clear o hw hN
 go_enter Tryz.func117, Tryz.ntmps117
 go_upto_region 1 with fail
 rw [← hW]
 clear hW
 have hp3 := hp W HB
 go_wp2_with fail
 refine (rcount_any ((presM p.control.l).length + 1) p.control _ (Nat.lt_succ_self _) HN.out (HO.out.control.below (below_step HW.out (by first | exact HB | exact ba1 HB | exact ba2 HB | exact ba3 HB)) (Nat.le_refl _)) (CtlsOk.below (below_step HW.out (by first | exact HB | exact ba1 HB | exact ba2 HB | exact ba3 HB)) HO.out.ctl)).mono ?_
 rintro e w1 ⟨rfl, hbN⟩
 replace HB := below_step (by first | exact HB | exact ba1 HB | exact ba2 HB | exact ba3 HB) hbN
 clear hbN
 clear hp3
 have hp3 := hp _ HB
 by_cases k1 : 24 < (presM p.control.l).length
 ·
  replace HR := tr_ HR (if_pos k1)
  have k1' : (24 : Int) < ((presM p.control.l).length : Int) := by omega
  clear k1
  go_wp2
  go_ret2
  exact ⟨ret_pp HR.out, below_step HW.out HB⟩
 replace HR := tr_ HR (if_neg k1)
 have k1' : ¬ (24 : Int) < ((presM p.control.l).length : Int) := by omega
 go_wp2_with fail
 refine (rnesting_any (nestM p.control.l + 1) p.control _ (Nat.lt_succ_self _) (Nat.le_trans HNe.out HN.out) (HO.out.control.below (below_step HW.out (by first | exact HB | exact ba1 HB | exact ba2 HB | exact ba3 HB)) (Nat.le_refl _)) (CtlsOk.below (below_step HW.out (by first | exact HB | exact ba1 HB | exact ba2 HB | exact ba3 HB)) HO.out.ctl)).mono ?_
 rintro e w2 ⟨rfl, hbN⟩
 replace HB := below_step (by first | exact HB | exact ba1 HB | exact ba2 HB | exact ba3 HB) hbN
 clear hbN
 clear hp3
 have hp3 := hp _ HB
 by_cases k2 : 6 < nestM p.control.l
 ·
  replace HR := tr_ HR (if_pos k2)
  have k2' : (6 : Int) < (nestM p.control.l : Int) := by omega
  clear k1 k2
  go_wp2
  go_ret2
  exact ⟨ret_pp HR.out, below_step HW.out HB⟩
 replace HR := tr_ HR (if_neg k2)
 have k2' : ¬ (6 : Int) < (nestM p.control.l : Int) := by omega
 clear k1 k2
 go_wp2_with fail
 refine (rpre_any ((presM p.control.l).length + 1) p.control _ (Nat.lt_succ_self _) HN.out (HO.out.control.below (below_step HW.out HB) (Nat.le_refl _)) (CtlsOk.below (below_step HW.out HB) HO.out.ctl)).mono ?_
 rintro e w3 ⟨A, cp, rfl, hown, hbN⟩
 replace HB := below_step HB hbN
 obtain ⟨A2, c2, e2, _, hL, _, _⟩ := own_list (l := presM p.control.l) (cells := CtlD.cells) (fun _ => rfl) hown
 cases e2
 have HL := hi_ hL
 have HB1 := hi_ HB
 clear hbN hown hL hp3
 generalize presM p.control.l = l at *
 go_wp2
 clear HB
 go_loopw [5, 6] (fun iv _ wr => ∃ k : Nat, k ≤ l.length ∧ iv = .int .i64 k ∧ (∀ j, j < k → nodeAtM p l j = none) ∧ Below w3.heap.size w3 wr) (fun i _ _ => l.length - (intOf i).toNat)
 case atStart => exact ⟨0, Nat.zero_le _, rfl, fun j h => absurd h (Nat.not_lt_zero _), Below.refl _ _⟩
 case round =>
  obtain ⟨k, hk, rfl, hpre, HB⟩ := hrel
  have HPre := hi_ hpre
  clear hpre
  have hp3 := hp wr (below_step HB1.out HB)
  by_cases hlt : k < l.length
  ·
   have HE := hi_ (HS.out k hlt)
   have HCS := hi_ (fun u (hb : Below w3.heap.size w3 u) => rcheckNode_any p ⟨l, A, cp⟩ k u (HO.out.below (below_step HW.out (below_step HB1.out hb))) (HL.out.below hb (Nat.le_refl _)) hlt (HOk.out u (CtlsOk.below (below_step HW.out (below_step HB1.out hb)) HO.out.ctl) k hlt) (Nat.le_trans (HK.out k hlt) HN.out))
   have hlt' : (k : Int) < (l.length : Int) := by omega
   simp only at HCS
   generalize nodeM p (usedM (l.take k)) l[k] = nm at *
   go_wp2_with fail
   refine (HCS.out _ (by first | exact HB | exact ba1 HB | exact ba2 HB | exact ba3 HB)).mono ?_
   rintro e w4 ⟨rfl, hbN⟩
   replace HB := below_step (by first | exact HB | exact ba1 HB | exact ba2 HB | exact ba3 HB) hbN
   clear hbN
   by_cases k1 : nm = 0
   ·
    subst k1
    have HP2 := hi_ (firstE_step HPre.out (HE.out.trans (if_neg (by simp))))
    go_wp2
    go_roundw
    case rel => exact ⟨k + 1, by omega, by go_num, HP2.out, HB⟩
    case measure => simp [intOf]; omega
   ·
    have HR2 := hi_ (HR.out.trans (show _ = ((k : Int), nm) by rw [firstE_some hlt HPre.out (HE.out.trans (if_pos k1))]))
    have k1' : (nm == 0) = false := bf_ k1
    clear k1
    go_wp2
    go_ret2
    exact ⟨ret_pp HR2.out, below_step HW.out (below_step HB1.out HB)⟩
  ·
   have e : k = l.length := by omega
   have HR2 := hi_ (HR.out.trans (show _ = ((0 : Int), (0 : Int)) by rw [firstE_none (by rw [← e]; exact HPre.out)]))
   go_wp2
   go_ret2
   exact ⟨ret_pp HR2.out, below_step HW.out (below_step HB1.out HB)⟩
def dgV (d : Option DiagD) : Value := (d.getD noDiag).val
theorem put_diag {w : World} {k : Nat} {a b c d : Value} (h : Blk w k 70 #[a, b, c, d]) (x y z u : Value) :
  Blk ((((w.setCell ⟨k, 0, none⟩ x).setCell ⟨k, 1, none⟩ y).setCell ⟨k, 2, none⟩ z).setCell ⟨k, 3, none⟩ u) k 70 #[x, y, z, u] := (((h.set_ 0 x).set_ 1 y).set_ 2 z).set_ 3 u
theorem put_below {w w1 : World} {B k : Nat} (hb : Below B w w1) (hk : B ≤ k) (x y z u : Value) :
  Below B w ((((w1.setCell ⟨k, 0, none⟩ x).setCell ⟨k, 1, none⟩ y).setCell ⟨k, 2, none⟩ z).setCell ⟨k, 3, none⟩ u) := (((hb.setCell hk _).setCell hk _).setCell hk _).setCell hk _
theorem rat_any (c p i s : Int) (w : World) :
  Calls Tryz.prog 110 #[.int .i64 c, .int .i64 p, .int .i64 i, .int .i64 s] w fun e w' => e = .returned (.agg #[.int .i64 c, .int .i64 p, .int .i64 i, .int .i64 s]) ∧ Below w.heap.size w w' := by
 go_enter Tryz.func110, Tryz.ntmps110
 go_wp2
 refine bodyPost_ret (v := .agg #[.int .i64 c, .int .i64 p, .int .i64 i, .int .i64 s]) (by simp [results, Tryz.results110, go_sem]) rfl ⟨rfl, below1 _ _⟩
theorem boxD (w : World) (p : ProgD) : ∃ W, W = (w.alloc (.cells (progCells p) 31)).alloc (.cells #[.int .i64 0, .int .i64 0, .int .i64 0, .int .i64 0] 70) ∧ Below w.heap.size w W ∧ Below W.heap.size W W ∧
  (∀ w', Below W.heap.size W w' → (∀ i, i < (progCells p).size → w'.cell? ⟨w.heap.size, i, none⟩ = (progCells p)[i]?) ∧ (∀ i, i < 4 → w'.cell? ⟨w.heap.size + 1, i, none⟩ = some (.int .i64 0)) ∧ (∀ i, w'.frozen? ⟨w.heap.size + 1, i, none⟩ = false)) ∧
  ∀ w', Below W.heap.size W w' → Blk w' (w.heap.size + 1) 70 #[.int .i64 0, .int .i64 0, .int .i64 0, .int .i64 0] := by
 obtain ⟨W, h1, h2, h3, _, h5⟩ := boxC w (progCells p) 31 #[.int .i64 0, .int .i64 0, .int .i64 0, .int .i64 0] 70
 refine ⟨W, h1, h2, h3, fun w' h => ⟨(h5 w' h).1, fun i hi => ?_, (h5 w' h).2.2.2.1⟩, fun w' h => (h5 w' h).2.2.2.2⟩
 rw [(h5 w' h).2.1 i hi]
 match i, hi with
 | 0, _ => rfl
 | 1, _ => rfl
 | 2, _ => rfl
 | 3, _ => rfl
theorem rwhole_any (p : ProgD) (w : World) (o : ProgOk w p) :
  Calls Tryz.prog 49 #[.agg (progCells p)] w fun e w' => e = .returned (dgV (limM p)) ∧ Below w.heap.size w w' := by
 have HS := hi_ o.name
 have HR := hi_ (limM.eq_1 p)
 obtain ⟨W, hW, hw, HB, hp, hQ⟩ := boxD w p
 have HW := hi_ hw
 have HQ := hi_ hQ
 clear o hw hQ
 go_enter Tryz.func49, Tryz.ntmps49
 go_upto_region 1 with fail
 rw [← hW]
 clear hW
 have hp3 := hp W HB
 go_wp2_with fail
 refine (risIdent_any p.name _ HS.out).mono ?_
 rintro e w' ⟨rfl, rfl⟩
 cases h1 : identM p.name.data.toList
 ·
  replace HR := tr_ HR (if_pos (show ident p.name = false from h1))
  go_wp2_with fail
  refine (rat_any 6 0 0 0 _).mono ?_
  rintro e w1 ⟨rfl, hbN⟩
  replace HB := below_step (by first | exact HB | exact ba1 HB | exact ba2 HB | exact ba3 HB) hbN
  clear hbN
  replace hp3 := hp _ HB
  go_wp2
  refine bodyPost_ret (v := .agg #[.int .i64 (6), .int .i64 (0), .int .i64 (0), .int .i64 (0)]) ?_ rfl ?_
  · exact results_cell_row (fn := Tryz.f49) (p := 2) (ty := 70) rfl _ _ (w.heap.size + 1) 70 #[.int .i64 (6), .int .i64 (0), .int .i64 (0), .int .i64 (0)] (0, 0) _ rfl (put_diag (HQ.out _ HB) _ _ _ _) Tryz.underlying70 rfl (by kernel_rfl)
  · exact ⟨by first | (rw [HR.out]; done) | (rw [HR.out]; rfl), put_below (below_step HW.out HB) (Nat.le_succ _) _ _ _ _⟩
 replace HR := tr_ HR (if_neg (show ¬ ident p.name = false by rw [show ident p.name = true from h1]; simp))
 clear h1
 by_cases k1 : 8 < p.headers.l.length
 ·
  replace HR := tr_ HR (if_pos k1)
  go_wp2_with fail
  refine (rat_any 12 0 1 0 _).mono ?_
  rintro e w1 ⟨rfl, hbN⟩
  replace HB := below_step (by first | exact HB | exact ba1 HB | exact ba2 HB | exact ba3 HB) hbN
  clear hbN
  replace hp3 := hp _ HB
  go_wp2
  refine bodyPost_ret (v := .agg #[.int .i64 (12), .int .i64 (0), .int .i64 (1), .int .i64 (0)]) ?_ rfl ?_
  · exact results_cell_row (fn := Tryz.f49) (p := 2) (ty := 70) rfl _ _ (w.heap.size + 1) 70 #[.int .i64 (12), .int .i64 (0), .int .i64 (1), .int .i64 (0)] (0, 0) _ rfl (put_diag (HQ.out _ HB) _ _ _ _) Tryz.underlying70 rfl (by kernel_rfl)
  · exact ⟨by first | (rw [HR.out]; done) | (rw [HR.out]; rfl), put_below (below_step HW.out HB) (Nat.le_succ _) _ _ _ _⟩
 replace HR := tr_ HR (if_neg k1)
 by_cases k2 : 4 < p.registers.l.length
 ·
  replace HR := tr_ HR (if_pos k2)
  go_wp2_with fail
  refine (rat_any 12 0 3 0 _).mono ?_
  rintro e w1 ⟨rfl, hbN⟩
  replace HB := below_step (by first | exact HB | exact ba1 HB | exact ba2 HB | exact ba3 HB) hbN
  clear hbN
  replace hp3 := hp _ HB
  go_wp2
  refine bodyPost_ret (v := .agg #[.int .i64 (12), .int .i64 (0), .int .i64 (3), .int .i64 (0)]) ?_ rfl ?_
  · exact results_cell_row (fn := Tryz.f49) (p := 2) (ty := 70) rfl _ _ (w.heap.size + 1) 70 #[.int .i64 (12), .int .i64 (0), .int .i64 (3), .int .i64 (0)] (0, 0) _ rfl (put_diag (HQ.out _ HB) _ _ _ _) Tryz.underlying70 rfl (by kernel_rfl)
  · exact ⟨by first | (rw [HR.out]; done) | (rw [HR.out]; rfl), put_below (below_step HW.out HB) (Nat.le_succ _) _ _ _ _⟩
 replace HR := tr_ HR (if_neg k2)
 by_cases k3 : 16 < p.actions.l.length
 ·
  replace HR := tr_ HR (if_pos k3)
  go_wp2_with fail
  refine (rat_any 12 0 4 0 _).mono ?_
  rintro e w1 ⟨rfl, hbN⟩
  replace HB := below_step (by first | exact HB | exact ba1 HB | exact ba2 HB | exact ba3 HB) hbN
  clear hbN
  replace hp3 := hp _ HB
  go_wp2
  refine bodyPost_ret (v := .agg #[.int .i64 (12), .int .i64 (0), .int .i64 (4), .int .i64 (0)]) ?_ rfl ?_
  · exact results_cell_row (fn := Tryz.f49) (p := 2) (ty := 70) rfl _ _ (w.heap.size + 1) 70 #[.int .i64 (12), .int .i64 (0), .int .i64 (4), .int .i64 (0)] (0, 0) _ rfl (put_diag (HQ.out _ HB) _ _ _ _) Tryz.underlying70 rfl (by kernel_rfl)
  · exact ⟨by first | (rw [HR.out]; done) | (rw [HR.out]; rfl), put_below (below_step HW.out HB) (Nat.le_succ _) _ _ _ _⟩
 replace HR := tr_ HR (if_neg k3)
 by_cases k4 : 12 < p.tables.l.length
 ·
  replace HR := tr_ HR (if_pos k4)
  go_wp2_with fail
  refine (rat_any 12 0 5 0 _).mono ?_
  rintro e w1 ⟨rfl, hbN⟩
  replace HB := below_step (by first | exact HB | exact ba1 HB | exact ba2 HB | exact ba3 HB) hbN
  clear hbN
  replace hp3 := hp _ HB
  go_wp2
  refine bodyPost_ret (v := .agg #[.int .i64 (12), .int .i64 (0), .int .i64 (5), .int .i64 (0)]) ?_ rfl ?_
  · exact results_cell_row (fn := Tryz.f49) (p := 2) (ty := 70) rfl _ _ (w.heap.size + 1) 70 #[.int .i64 (12), .int .i64 (0), .int .i64 (5), .int .i64 (0)] (0, 0) _ rfl (put_diag (HQ.out _ HB) _ _ _ _) Tryz.underlying70 rfl (by kernel_rfl)
  · exact ⟨by first | (rw [HR.out]; done) | (rw [HR.out]; rfl), put_below (below_step HW.out HB) (Nat.le_succ _) _ _ _ _⟩
 replace HR := tr_ HR (if_neg k4)
 go_wp2
 refine bodyPost_ret (v := .agg #[.int .i64 (0), .int .i64 (0), .int .i64 (0), .int .i64 (0)]) ?_ rfl ?_
 · exact results_cell_row (fn := Tryz.f49) (p := 2) (ty := 70) rfl _ _ (w.heap.size + 1) 70 #[.int .i64 (0), .int .i64 (0), .int .i64 (0), .int .i64 (0)] (0, 0) _ rfl (put_diag (HQ.out _ HB) _ _ _ _) Tryz.underlying70 rfl (by kernel_rfl)
 · exact ⟨by first | (rw [HR.out]; done) | (rw [HR.out]; rfl), put_below (below_step HW.out HB) (Nat.le_succ _) _ _ _ _⟩
theorem rheaders_any (p : ProgD) (w : World) (o : ProgOk w p) :
  Calls Tryz.prog 50 #[.agg (progCells p)] w fun e w' => e = .returned (dgV (hdrsM p)) ∧ Below w.heap.size w w' := by
 have HO := hi_ o
 have HR := hi_ (hdrsM.eq_1 p)
 obtain ⟨W, hW, hw, HB, hp, hQ⟩ := boxD w p
 have HW := hi_ hw
 have HQ := hi_ hQ
 clear hQ
 by_cases h0 : p.headers.l.length = 0
 ·
  have h0' : ¬ (0 : Int) < (p.headers.l.length : Int) := by omega
  replace HR : Hid (hdrsM p = none) := hi_ (by rw [HR.out, h0]; rfl)
  clear o hw h0
  go_enter Tryz.func50, Tryz.ntmps50
  go_upto_region 1 with fail
  rw [← hW]
  clear hW
  have hp3 := hp W HB
  go_wp2
  refine wp_loop_rounds 1 ?_
  rw [rounds_succ]
  go_wp2
  refine bodyPost_ret (v := .agg #[.int .i64 (0), .int .i64 (0), .int .i64 (0), .int .i64 (0)]) ?_ rfl ?_
  · exact results_cell_row (fn := Tryz.f50) (p := 2) (ty := 70) rfl _ _ (w.heap.size + 1) 70 #[.int .i64 (0), .int .i64 (0), .int .i64 (0), .int .i64 (0)] (0, 0) _ rfl (put_diag (HQ.out _ HB) _ _ _ _) Tryz.underlying70 rfl (by kernel_rfl)
  · exact ⟨by first | (rw [HR.out]; done) | (rw [HR.out]; rfl), put_below (below_step HW.out HB) (Nat.le_succ _) _ _ _ _⟩
 have hmx : p.headers.l.length ≤ 9223372036854775807 := o.headers.1
 obtain ⟨g, of, hA, hall⟩ := HeaderD.allA (o.headers.below hw (Nat.le_refl _)) (show 0 < p.headers.l.length by omega)
 have HAL := hi_ hall
 have HAA := hi_ hA
 simp only [progCells, hA] at hp hW ⊢
 clear o hw hA hall h0
 have HB1 := hi_ HB
 have HS := hi_ (hdrAtM_at p.headers.l)
 go_enter Tryz.func50, Tryz.ntmps50
 go_upto_region 1 with fail
 rw [← hW]
 clear hW
 go_wp2
 clear HB
 go_loopw [3, 4, 5] (fun iv _ _ wr => ∃ i : Nat, i ≤ p.headers.l.length ∧ iv = .int .i64 i ∧ (∀ j, j < i → hdrAtM p.headers.l j = none) ∧ Below W.heap.size W wr) (fun i _ _ _ => p.headers.l.length - (intOf i).toNat)
 case atStart => exact ⟨0, Nat.zero_le _, rfl, fun j hj => absurd hj (Nat.not_lt_zero _), HB1.out⟩
 case round =>
 obtain ⟨i, hi, rfl, hpre, HB⟩ := hrel
 have HPre := hi_ hpre
 have hp3 := hp wr HB
 clear hpre HB1
 by_cases hlt : i < p.headers.l.length
 case neg =>
  have e : i = p.headers.l.length := by omega
  replace HR := hi_ (HR.out.trans (show _ = none by rw [firstE_none (by rw [← e]; exact HPre.out)]))
  go_wp2
  refine bodyPost_ret (v := .agg #[.int .i64 (0), .int .i64 (0), .int .i64 (0), .int .i64 (0)]) ?_ rfl ?_
  · exact results_cell_row (fn := Tryz.f50) (p := 2) (ty := 70) rfl _ _ (w.heap.size + 1) 70 #[.int .i64 (0), .int .i64 (0), .int .i64 (0), .int .i64 (0)] (0, 0) _ rfl (put_diag (HQ.out _ HB) _ _ _ _) Tryz.underlying70 rfl (by kernel_rfl)
  · exact ⟨by first | (rw [HR.out]; done) | (rw [HR.out]; rfl), put_below (below_step HW.out HB) (Nat.le_succ _) _ _ _ _⟩
 have HF := hi_ (HS.out i hlt)
 have HD := hi_ (dup_tells (f := HeaderD.name) hlt)
 have HALi := hi_ (fun w' h => HAL.out w' h i hlt)
 have HCk : Hid (∀ u, Below W.heap.size W u → _) := hi_ (fun u (hb : Below W.heap.size W u) => rhdr_any p.headers.l[i] u ((HO.out.hdr _ (List.getElem_mem hlt)).below (below_step HW.out hb)))
 generalize p.headers.l[i] = y at *
 obtain ⟨yn, ⟨yl, yA, yc⟩⟩ := y
 simp only at HF HD HALi HCk
 have d := HALi.out wr HB
 go_wp2_with fail
 refine (HCk.out _ (by first | exact HB | exact ba1 HB | exact ba2 HB | exact ba3 HB)).mono ?_
 rintro e w1 ⟨rfl, hbN⟩
 replace HB := below_step (by first | exact HB | exact ba1 HB | exact ba2 HB | exact ba3 HB) hbN
 clear hbN
 generalize hdrM ⟨yn, ⟨yl, yA, yc⟩⟩ = c at *
 clear d hp3
 have d := HALi.out _ HB
 have hp3 := hp _ HB
 by_cases k1 : c = 0
 case neg =>
  have k1' : (c == 0) = false := bf_ k1
  replace HR := hi_ (HR.out.trans (firstE_some hlt HPre.out (HF.out.trans (if_pos k1))))
  clear k1
  have hi0 : (0 : Int) < (i : Int) ∨ ¬ (0 : Int) < (i : Int) := by omega
  rcases hi0 with hi0 | hi0
  all_goals
   go_wp2
   refine wp_loop_rounds 1 ?_
   rw [rounds_succ]
   go_wp2_with fail
   refine (rat_any c 1 i 0 _).mono ?_
   rintro e w2 ⟨rfl, hbN⟩
   replace HB := below_step (by first | exact HB | exact ba1 HB | exact ba2 HB | exact ba3 HB) hbN
   clear hbN
   clear hp3
   have hp3 := hp _ HB
   go_wp2
   refine bodyPost_ret (v := .agg #[.int .i64 (c), .int .i64 (1), .int .i64 (i), .int .i64 (0)]) ?_ rfl ?_
   · exact results_cell_row (fn := Tryz.f50) (p := 2) (ty := 70) rfl _ _ (w.heap.size + 1) 70 #[.int .i64 (c), .int .i64 (1), .int .i64 (i), .int .i64 (0)] (0, 0) _ rfl (put_diag (HQ.out _ HB) _ _ _ _) Tryz.underlying70 rfl (by kernel_rfl)
   · exact ⟨by first | (rw [HR.out]; done) | (rw [HR.out]; rfl), put_below (below_step HW.out HB) (Nat.le_succ _) _ _ _ _⟩
 subst k1
 replace HF := tr_ HF (if_neg (fun h => h rfl))
 by_cases km : yn = metaName
 ·
  replace HR := hi_ (HR.out.trans (firstE_some hlt HPre.out (HF.out.trans (if_pos km))))
  have km' := meta_true km
  clear km
  have hi0 : (0 : Int) < (i : Int) ∨ ¬ (0 : Int) < (i : Int) := by omega
  rcases hi0 with hi0 | hi0
  all_goals
   go_wp2
   refine wp_loop_rounds 1 ?_
   rw [rounds_succ]
   go_wp2_with fail
   refine (rat_any 6 1 i 0 _).mono ?_
   rintro e w2 ⟨rfl, hbN⟩
   replace HB := below_step (by first | exact HB | exact ba1 HB | exact ba2 HB | exact ba3 HB) hbN
   clear hbN
   clear hp3
   have hp3 := hp _ HB
   go_wp2
   refine bodyPost_ret (v := .agg #[.int .i64 (6), .int .i64 (1), .int .i64 (i), .int .i64 (0)]) ?_ rfl ?_
   · exact results_cell_row (fn := Tryz.f50) (p := 2) (ty := 70) rfl _ _ (w.heap.size + 1) 70 #[.int .i64 (6), .int .i64 (1), .int .i64 (i), .int .i64 (0)] (0, 0) _ rfl (put_diag (HQ.out _ HB) _ _ _ _) Tryz.underlying70 rfl (by kernel_rfl)
   · exact ⟨by first | (rw [HR.out]; done) | (rw [HR.out]; rfl), put_below (below_step HW.out HB) (Nat.le_succ _) _ _ _ _⟩
 have km' := meta_false km
 replace HF := tr_ HF (if_neg km)
 clear km
 have HB0 := hi_ HB
 go_wp2
 clear HB d hp3
 go_loopw [4, 5] (fun ev kv wr => ∃ (k : Nat) (c : Int), k ≤ i ∧ kv = .int .i64 k ∧ ev = .int .i64 c ∧ Hid ((c = 0 ∧ ∀ j (hj : j < p.headers.l.length), j < k → p.headers.l[j].name ≠ yn) ∨ (c = 7 ∧ dupB (p.headers.l.map HeaderD.name) i = true)) ∧ Below W.heap.size W wr) (fun _ k _ => i - (intOf k).toNat)
 case atStart => exact ⟨0, 0, Nat.zero_le _, rfl, rfl, hi_ (.inl ⟨rfl, fun j _ hj => absurd hj (Nat.not_lt_zero _)⟩), HB0.out⟩
 case round =>
 clear HB0
 obtain ⟨k, c, hk, rfl, rfl, HC, HB⟩ := hrel
 have d := HALi.out _ HB
 have hp3 := hp _ HB
 rcases HC.out with ⟨rfl, hn⟩ | ⟨rfl, hdup⟩
 ·
  have HN := hi_ hn
  clear hn HC
  by_cases hki : k < i
  ·
   have hkl : k < p.headers.l.length := by omega
   have hkl' : (k : Int) < (p.headers.l.length : Int) := by omega
   have hil' : (i : Int) < (p.headers.l.length : Int) := by omega
   have e0 := HAL.out _ HB k hkl
   have HY : Hid (p.headers.l[k].name = yn → dupB (p.headers.l.map HeaderD.name) i = true) := hi_ (fun e => HD.out.1 k hkl hki e)
   have HZ : Hid (p.headers.l[k].name ≠ yn → ∀ j (hj : j < p.headers.l.length), j < k + 1 → p.headers.l[j].name ≠ yn) := hi_ (fun hne => pre_ne (f := fun _ (a : HeaderD) => a.name ≠ yn) HN.out hne)
   have e1 := e0.1
   clear e0
   generalize p.headers.l[k].name = t at *
   by_cases ht : t = yn
   ·
    have ht' := toList_true ht
    have HY2 := hi_ (HY.out ht)
    clear ht HY HZ
    go_wp2
    go_quiet (fail)
    go_wp2
    go_roundw
    case rel => exact ⟨k + 1, 7, by omega, by go_num, rfl, hi_ (.inr ⟨rfl, HY2.out⟩), below_drewN HB _⟩
    case measure => simp [intOf]; omega
   ·
    have HZ2 := hi_ (HZ.out ht)
    have ht' := toList_false ht
    clear ht HY HZ
    go_wp2
    go_quiet (fail)
    go_wp2
    go_roundw
    case rel => exact ⟨k + 1, 0, by omega, by go_num, rfl, hi_ (.inl ⟨rfl, HZ2.out⟩), below_drewN HB _⟩
    case measure => simp [intOf]; omega
  ·
   have e : k = i := by omega
   subst e
   have HP2 := hi_ (pre_step HPre.out (HF.out.trans (if_neg (by rw [HD.out.2 HN.out]; simp))))
   go_wp2
   go_roundw
   case rel => exact ⟨k + 1, by omega, by go_num, HP2.out, HB⟩
   case measure => simp [intOf]; omega
 ·
  replace HR := hi_ (HR.out.trans (firstE_some hlt HPre.out (HF.out.trans (if_pos hdup))))
  clear HC hdup
  have hi0 : (k : Int) < (i : Int) ∨ ¬ (k : Int) < (i : Int) := by omega
  rcases hi0 with hi0 | hi0
  all_goals
   go_wp2_with fail
   refine (rat_any 7 1 i 0 _).mono ?_
   rintro e w2 ⟨rfl, hbN⟩
   replace HB := below_step (by first | exact HB | exact ba1 HB | exact ba2 HB | exact ba3 HB) hbN
   clear hbN
   clear hp3
   have hp3 := hp _ HB
   go_wp2
   refine bodyPost_ret (v := .agg #[.int .i64 (7), .int .i64 (1), .int .i64 (i), .int .i64 (0)]) ?_ rfl ?_
   · exact results_cell_row (fn := Tryz.f50) (p := 2) (ty := 70) rfl _ _ (w.heap.size + 1) 70 #[.int .i64 (7), .int .i64 (1), .int .i64 (i), .int .i64 (0)] (0, 0) _ rfl (put_diag (HQ.out _ HB) _ _ _ _) Tryz.underlying70 rfl (by kernel_rfl)
   · exact ⟨by first | (rw [HR.out]; done) | (rw [HR.out]; rfl), put_below (below_step HW.out HB) (Nat.le_succ _) _ _ _ _⟩
theorem rregisters_any (p : ProgD) (w : World) (o : ProgOk w p) :
  Calls Tryz.prog 52 #[.agg (progCells p)] w fun e w' => e = .returned (dgV (regsM p)) ∧ Below w.heap.size w w' := by
 have HO := hi_ o
 have HR := hi_ (regsM.eq_1 p)
 obtain ⟨W, hW, hw, HB, hp, hQ⟩ := boxD w p
 have HW := hi_ hw
 have HQ := hi_ hQ
 clear hQ
 by_cases h0 : p.registers.l.length = 0
 ·
  have h0' : ¬ (0 : Int) < (p.registers.l.length : Int) := by omega
  replace HR : Hid (regsM p = none) := hi_ (by rw [HR.out, h0]; rfl)
  clear o hw h0
  go_enter Tryz.func52, Tryz.ntmps52
  go_upto_region 1 with fail
  rw [← hW]
  clear hW
  have hp3 := hp W HB
  go_wp2
  refine wp_loop_rounds 1 ?_
  rw [rounds_succ]
  go_wp2
  refine bodyPost_ret (v := .agg #[.int .i64 (0), .int .i64 (0), .int .i64 (0), .int .i64 (0)]) ?_ rfl ?_
  · exact results_cell_row (fn := Tryz.f52) (p := 2) (ty := 70) rfl _ _ (w.heap.size + 1) 70 #[.int .i64 (0), .int .i64 (0), .int .i64 (0), .int .i64 (0)] (0, 0) _ rfl (put_diag (HQ.out _ HB) _ _ _ _) Tryz.underlying70 rfl (by kernel_rfl)
  · exact ⟨by first | (rw [HR.out]; done) | (rw [HR.out]; rfl), put_below (below_step HW.out HB) (Nat.le_succ _) _ _ _ _⟩
 have hmx : p.registers.l.length ≤ 9223372036854775807 := o.registers.1
 obtain ⟨g, of, hA, hall⟩ := RegD.allA (o.registers.below hw (Nat.le_refl _)) (show 0 < p.registers.l.length by omega)
 have HAL := hi_ hall
 have HAA := hi_ hA
 simp only [progCells, hA] at hp hW ⊢
 clear o hw hA hall h0
 have HB1 := hi_ HB
 have HS := hi_ (regAtM_at p.registers.l)
 go_enter Tryz.func52, Tryz.ntmps52
 go_upto_region 1 with fail
 rw [← hW]
 clear hW
 go_wp2
 clear HB
 go_loopw [3, 4, 5] (fun iv _ _ wr => ∃ i : Nat, i ≤ p.registers.l.length ∧ iv = .int .i64 i ∧ (∀ j, j < i → regAtM p.registers.l j = none) ∧ Below W.heap.size W wr) (fun i _ _ _ => p.registers.l.length - (intOf i).toNat)
 case atStart => exact ⟨0, Nat.zero_le _, rfl, fun j hj => absurd hj (Nat.not_lt_zero _), HB1.out⟩
 case round =>
 obtain ⟨i, hi, rfl, hpre, HB⟩ := hrel
 have HPre := hi_ hpre
 have hp3 := hp wr HB
 clear hpre HB1
 by_cases hlt : i < p.registers.l.length
 case neg =>
  have e : i = p.registers.l.length := by omega
  replace HR := hi_ (HR.out.trans (show _ = none by rw [firstE_none (by rw [← e]; exact HPre.out)]))
  go_wp2
  refine bodyPost_ret (v := .agg #[.int .i64 (0), .int .i64 (0), .int .i64 (0), .int .i64 (0)]) ?_ rfl ?_
  · exact results_cell_row (fn := Tryz.f52) (p := 2) (ty := 70) rfl _ _ (w.heap.size + 1) 70 #[.int .i64 (0), .int .i64 (0), .int .i64 (0), .int .i64 (0)] (0, 0) _ rfl (put_diag (HQ.out _ HB) _ _ _ _) Tryz.underlying70 rfl (by kernel_rfl)
  · exact ⟨by first | (rw [HR.out]; done) | (rw [HR.out]; rfl), put_below (below_step HW.out HB) (Nat.le_succ _) _ _ _ _⟩
 have HF := hi_ (HS.out i hlt)
 have HD := hi_ (dup_tells (f := RegD.name) hlt)
 have HALi := hi_ (fun w' h => HAL.out w' h i hlt)
 have HCk : Hid (∀ u, Below W.heap.size W u → _) := hi_ (fun u (hb : Below W.heap.size W u) => rreg_any p.registers.l[i] (HO.out.rnames _ (List.getElem_mem hlt)) u)
 generalize p.registers.l[i] = y at *
 obtain ⟨yn, yw, ys⟩ := y
 simp only at HF HD HALi HCk
 have d := HALi.out wr HB
 go_wp2_with fail
 refine (HCk.out _ (by first | exact HB | exact ba1 HB | exact ba2 HB | exact ba3 HB)).mono ?_
 rintro e w1 ⟨rfl, hbN⟩
 replace HB := below_step (by first | exact HB | exact ba1 HB | exact ba2 HB | exact ba3 HB) hbN
 clear hbN
 generalize regM ⟨yn, yw, ys⟩ = c at *
 clear d hp3
 have d := HALi.out _ HB
 have hp3 := hp _ HB
 by_cases k1 : c = 0
 case neg =>
  have k1' : (c == 0) = false := bf_ k1
  replace HR := hi_ (HR.out.trans (firstE_some hlt HPre.out (HF.out.trans (if_pos k1))))
  clear k1
  have hi0 : (0 : Int) < (i : Int) ∨ ¬ (0 : Int) < (i : Int) := by omega
  rcases hi0 with hi0 | hi0
  all_goals
   go_wp2
   refine wp_loop_rounds 1 ?_
   rw [rounds_succ]
   go_wp2_with fail
   refine (rat_any c 3 i 0 _).mono ?_
   rintro e w2 ⟨rfl, hbN⟩
   replace HB := below_step (by first | exact HB | exact ba1 HB | exact ba2 HB | exact ba3 HB) hbN
   clear hbN
   clear hp3
   have hp3 := hp _ HB
   go_wp2
   refine bodyPost_ret (v := .agg #[.int .i64 (c), .int .i64 (3), .int .i64 (i), .int .i64 (0)]) ?_ rfl ?_
   · exact results_cell_row (fn := Tryz.f52) (p := 2) (ty := 70) rfl _ _ (w.heap.size + 1) 70 #[.int .i64 (c), .int .i64 (3), .int .i64 (i), .int .i64 (0)] (0, 0) _ rfl (put_diag (HQ.out _ HB) _ _ _ _) Tryz.underlying70 rfl (by kernel_rfl)
   · exact ⟨by first | (rw [HR.out]; done) | (rw [HR.out]; rfl), put_below (below_step HW.out HB) (Nat.le_succ _) _ _ _ _⟩
 subst k1
 replace HF := tr_ HF (if_neg (fun h => h rfl))
 have HB0 := hi_ HB
 go_wp2
 clear HB d hp3
 go_loopw [4, 5] (fun ev kv wr => ∃ (k : Nat) (c : Int), k ≤ i ∧ kv = .int .i64 k ∧ ev = .int .i64 c ∧ Hid ((c = 0 ∧ ∀ j (hj : j < p.registers.l.length), j < k → p.registers.l[j].name ≠ yn) ∨ (c = 7 ∧ dupB (p.registers.l.map RegD.name) i = true)) ∧ Below W.heap.size W wr) (fun _ k _ => i - (intOf k).toNat)
 case atStart => exact ⟨0, 0, Nat.zero_le _, rfl, rfl, hi_ (.inl ⟨rfl, fun j _ hj => absurd hj (Nat.not_lt_zero _)⟩), HB0.out⟩
 case round =>
 clear HB0
 obtain ⟨k, c, hk, rfl, rfl, HC, HB⟩ := hrel
 have d := HALi.out _ HB
 have hp3 := hp _ HB
 rcases HC.out with ⟨rfl, hn⟩ | ⟨rfl, hdup⟩
 ·
  have HN := hi_ hn
  clear hn HC
  by_cases hki : k < i
  ·
   have hkl : k < p.registers.l.length := by omega
   have hkl' : (k : Int) < (p.registers.l.length : Int) := by omega
   have hil' : (i : Int) < (p.registers.l.length : Int) := by omega
   have e0 := HAL.out _ HB k hkl
   have HY : Hid (p.registers.l[k].name = yn → dupB (p.registers.l.map RegD.name) i = true) := hi_ (fun e => HD.out.1 k hkl hki e)
   have HZ : Hid (p.registers.l[k].name ≠ yn → ∀ j (hj : j < p.registers.l.length), j < k + 1 → p.registers.l[j].name ≠ yn) := hi_ (fun hne => pre_ne (f := fun _ (a : RegD) => a.name ≠ yn) HN.out hne)
   have e1 := e0.1
   clear e0
   generalize p.registers.l[k].name = t at *
   by_cases ht : t = yn
   ·
    have ht' := toList_true ht
    have HY2 := hi_ (HY.out ht)
    clear ht HY HZ
    go_wp2
    go_quiet (fail)
    go_wp2
    go_roundw
    case rel => exact ⟨k + 1, 7, by omega, by go_num, rfl, hi_ (.inr ⟨rfl, HY2.out⟩), below_drewN HB _⟩
    case measure => simp [intOf]; omega
   ·
    have HZ2 := hi_ (HZ.out ht)
    have ht' := toList_false ht
    clear ht HY HZ
    go_wp2
    go_quiet (fail)
    go_wp2
    go_roundw
    case rel => exact ⟨k + 1, 0, by omega, by go_num, rfl, hi_ (.inl ⟨rfl, HZ2.out⟩), below_drewN HB _⟩
    case measure => simp [intOf]; omega
  ·
   have e : k = i := by omega
   subst e
   have HP2 := hi_ (pre_step HPre.out (HF.out.trans (if_neg (by rw [HD.out.2 HN.out]; simp))))
   go_wp2
   go_roundw
   case rel => exact ⟨k + 1, by omega, by go_num, HP2.out, HB⟩
   case measure => simp [intOf]; omega
 ·
  replace HR := hi_ (HR.out.trans (firstE_some hlt HPre.out (HF.out.trans (if_pos hdup))))
  clear HC hdup
  have hi0 : (k : Int) < (i : Int) ∨ ¬ (k : Int) < (i : Int) := by omega
  rcases hi0 with hi0 | hi0
  all_goals
   go_wp2_with fail
   refine (rat_any 7 3 i 0 _).mono ?_
   rintro e w2 ⟨rfl, hbN⟩
   replace HB := below_step (by first | exact HB | exact ba1 HB | exact ba2 HB | exact ba3 HB) hbN
   clear hbN
   clear hp3
   have hp3 := hp _ HB
   go_wp2
   refine bodyPost_ret (v := .agg #[.int .i64 (7), .int .i64 (3), .int .i64 (i), .int .i64 (0)]) ?_ rfl ?_
   · exact results_cell_row (fn := Tryz.f52) (p := 2) (ty := 70) rfl _ _ (w.heap.size + 1) 70 #[.int .i64 (7), .int .i64 (3), .int .i64 (i), .int .i64 (0)] (0, 0) _ rfl (put_diag (HQ.out _ HB) _ _ _ _) Tryz.underlying70 rfl (by kernel_rfl)
   · exact ⟨by first | (rw [HR.out]; done) | (rw [HR.out]; rfl), put_below (below_step HW.out HB) (Nat.le_succ _) _ _ _ _⟩
end Go.Proofs.YtofjapcgbajmiaaGreatDoor
