/- The operation that is read has numbers of their kinds; tokens are no longer than their text: plain. No condition. The names of the elements of a valid program identify them: plain law. No condition. The walk of the lexer's Tokenize. No condition. The walks of optext.Format and parse. No condition but that program, operation and text lie in memory, the numbers are of their kinds, the lists are short, and the table of powers of ten is laid. The walk of optext.Parse. No condition but that the program lies in memory, that its lists are short, and that the table of powers of ten is laid. The lines of a text, split at newlines, and which of them are blank: plain law. No condition. The walks of the reference's comparisons of operations, at equal operations: they say yes. No condition but that the lists lie in memory. Texts split into lines, trimmed, and a list clipped: what the library's functions give; lists of operations in memory. No condition but that the text is short and that the table of lengths is laid. The walk of optext.ParseScript. No condition but that the program lies in memory, that its lists are short, and that the tables of powers of ten and of lengths are laid. The law's fixed program: its cells, and what the functions answer at it. No condition. The walk of the law's fixed examples: they are met. No condition but that the tables of powers of ten and of lengths are laid. The walk of law 22's count of control nodes. No condition but that the nodes lie in memory and are no longer than memory. The walks of law16.Small and law22.Small: what a yes of them tells. No condition but that the program lies in memory. The walk of the law OptextJoins: it returns true. Conditions: the program lies in memory with lists of the machine's sizes, the tables of powers of ten and of lengths are laid. -/
import Derived.Lib.SplitLaws
import Derived.Lib.TrimByte
import Derived.Maps.AppendAt
import Derived.Test.YtofjapcgbajmiaaGreatDoorHJd
namespace Go.Proofs.YtofjapcgbajmiaaGreatDoor
open Go.RowKit
theorem wf_u (v : Nat) (h : v ≤ 4294967295) : (Lit.int .u32 (v : Int)).wf = true := by
  have e1 : IntKind.u32.min = 0 := rfl
  have e2 : IntKind.u32.max = 4294967295 := rfl
  simp only [Lit.wf, Bool.and_eq_true, decide_eq_true_eq]
  rw [e1, e2]
  omega
theorem wf_i (n : Int) (h : -9223372036854775808 ≤ n ∧ n ≤ 9223372036854775807) : (Lit.int .i64 n).wf = true := by
  have e1 : IntKind.i64.min = -9223372036854775808 := rfl
  have e2 : IntKind.i64.max = 9223372036854775807 := rfl
  simp only [Lit.wf, Bool.and_eq_true, decide_eq_true_eq]
  rw [e1, e2]
  exact h
theorem idxFrom_le (x : ByteArray) : ∀ (l : List ByteArray) (k : Nat), Lib.idxFromS l x k ≤ (k : Int) + l.length ∧ -1 ≤ Lib.idxFromS l x k
  | [], k => by
    rw [Lib.idxFromS.eq_def]
    simp only [List.length_nil]; omega
  | y :: l, k => by
    have h := idxFrom_le x l (k + 1)
    rw [Lib.idxFromS.eq_def]
    simp only
    split
    · simp only [List.length_cons]; omega
    · simp only [List.length_cons]; omega
theorem look_le (l : List ByteArray) (s : ByteArray) : 0 ≤ (lookM l s).1 ∧ (lookM l s).1 ≤ l.length := by
  have h := idxFrom_le s l 0
  rw [lookM]
  split
  · simp only; omega
  · rename_i h2
    simp only [Lib.idxOfS] at h2 ⊢
    omega
theorem res_le (ts : List Tk) (names : List ByteArray) (s : PS) : 0 ≤ (resA ts names s).1 ∧ (resA ts names s).1 ≤ names.length := by
  rw [resA]
  split
  · simp only; omega
  · split
    · exact look_le _ _
    · simp only; omega
def Us (l : List Int) : Prop := ∀ v ∈ l, (Lit.int .u32 v).wf = true
theorem args_wf {ts : List Tk} (h : ∀ t ∈ ts, TkOk t) : ∀ (n : Nat) (f : Bool) (acc : List Int) (s : PS), Us acc → Us (argsA ts n f acc s).1
  | 0, _, _, _, ha => ha
  | _ + 1, _, _, .bad _, ha => ha
  | n + 1, f, acc, .ok i, ha => by
    rw [args_ok]
    split
    · exact ha
    · refine args_wf h n false _ _ (fun v hv => ?_)
      rcases List.mem_append.1 hv with hv | hv
      · exact ha v hv
      · rw [List.mem_singleton] at hv
        rw [hv]; exact wf_u _ (num_le h _)
def Ks (l : List KmD) : Prop := ∀ k ∈ l, (Lit.int .u32 k.v).wf = true ∧ (Lit.int .u32 k.m).wf = true
theorem keys_wf {ts : List Tk} (h : ∀ t ∈ ts, TkOk t) : ∀ (n : Nat) (acc : List KmD) (s : PS), Ks acc → Ks (keysA ts n acc s).1
  | 0, _, _, ha => ha
  | _ + 1, _, .bad _, ha => ha
  | n + 1, acc, .ok i, ha => by
    rw [keys_ok]
    split
    · refine keys_wf h n _ _ (fun k hk => ?_)
      rcases List.mem_append.1 hk with hk | hk
      · exact ha k hk
      · rw [List.mem_singleton] at hk
        rw [hk]; exact ⟨wf_u _ (num_le h _), wf_u _ (num_le h _)⟩
    · exact ha
theorem call_wf {p : ProgD} {ts : List Tk} (h : ∀ t ∈ ts, TkOk t) (hp : p.actions.l.length ≤ 1000) (s : PS) : (Lit.int .i64 (callA p ts s).1.1).wf = true ∧ Us (callA p ts s).1.2 := by
  have h1 := res_le ts (p.actions.l.map ActD.name) (stepA ts 3 wArrow s)
  rw [List.length_map] at h1
  exact ⟨wf_i _ (show _ ∧ _ from by unfold callA; simp only; omega), args_wf h _ _ _ _ (fun _ h => by cases h)⟩
theorem opA_wf {p : ProgD} {ts : List Tk} (h : ∀ t ∈ ts, TkOk t) (hp : p.actions.l.length ≤ 1000) (ht : p.tables.l.length ≤ 1000) : OpFine (opA p ts).1 := by
  have z : (Lit.int .i64 0).wf = true := wf_i 0 (by omega)
  have nA : Us [] := fun _ h => by cases h
  have nK : Ks [] := fun _ h => by cases h
  have hr := res_le ts (p.tables.l.map TabD.name) (.ok 1)
  rw [List.length_map] at hr
  have hr2 : (Lit.int .i64 (resA ts (p.tables.l.map TabD.name) (.ok 1)).1).wf = true := wf_i _ (by omega)
  have num : ∀ s, (Lit.int .i64 ((numA ts s).1 : Int)).wf = true := fun s => wf_i _ (by have := num_le h s; omega)
  unfold opA
  simp only
  split
  · exact ⟨z, z, z, nK, z, z, nA, z, nA⟩
  split
  · exact ⟨wf_i 1 (by omega), hr2, z, keys_wf h _ _ _ nK, num _, (call_wf h hp _).1, (call_wf h hp _).2, z, nA⟩
  split
  · exact ⟨wf_i 2 (by omega), hr2, num _, nK, z, z, nA, (call_wf h hp _).1, (call_wf h hp _).2⟩
  split
  · exact ⟨wf_i 3 (by omega), hr2, num _, nK, z, z, nA, z, nA⟩
  · exact ⟨wf_i 4 (by omega), hr2, z, nK, z, z, nA, (call_wf h hp _).1, (call_wf h hp _).2⟩
theorem nextM_lenO (l : List UInt8) : (nextM l).1.text.length ≤ l.length := by
  match l with
  | [] => exact Nat.zero_le _
  | c :: r =>
    have tl : ∀ n, ((c :: r).take n).length ≤ (c :: r).length := fun n => by rw [List.length_take]; omega
    simp only [nextM]
    split
    · split
      · exact Nat.zero_le _
      · exact tl _
    · split
      · split
        · exact Nat.zero_le _
        · exact tl _
      · split
        · exact Nat.zero_le _
        · exact tl _
theorem tokM_len (N : Nat) : ∀ (n : Nat) (l : List UInt8) (at_ : Nat) (out : List Tk), l.length ≤ N → (∀ t ∈ out, t.text.length ≤ N) → ∀ t ∈ (tokM n l at_ out).1, t.text.length ≤ N
  | 0, _, _, out, _, h => h
  | n + 1, [], _, out, _, h => h
  | n + 1, c :: r, at_, out, hl, h => by
    have hr : r.length ≤ N := by simp only [List.length_cons] at hl; omega
    have hd : ∀ k, ((c :: r).drop k).length ≤ N := fun k => by rw [List.length_drop]; omega
    have hd2 : ∀ k, (r.drop k).length ≤ N := fun k => by rw [List.length_drop]; omega
    rw [tokM]
    split
    · exact tokM_len N n r (at_ + 1) out hr h
    · split
      · exact tokM_len N n r at_ out hr h
      · split
        · exact tokM_len N n _ at_ out (by first | exact hd _ | exact hd2 _ | (refine Nat.le_trans ?_ hl; exact List.IsSuffix.length_le (List.dropWhile_suffix _)) | (refine Nat.le_trans ?_ hr; exact List.IsSuffix.length_le (List.dropWhile_suffix _))) h
        · split
          · exact fun t h => by simp at h
          · split
            · refine tokM_len N n _ at_ _ (by first | exact hd _ | exact hd2 _) (fun t ht => ?_)
              rcases List.mem_append.1 ht with ht | ht
              · exact h t ht
              · simp only [List.mem_singleton] at ht
                subst ht
                exact Nat.le_trans (nextM_lenO (c :: r)) hl
            · exact fun t h => by simp at h
theorem tokenize_len (l : List UInt8) : ∀ t ∈ (tokenize l).1, t.text.length ≤ 16384 := by
  unfold tokenize
  split
  · exact fun t h => by simp at h
  · rename_i h
    exact tokM_len 16384 l.length l 1 [] (by omega) (fun t h => by simp at h)
end Go.Proofs.YtofjapcgbajmiaaGreatDoor
namespace Go.Proofs.YtofjapcgbajmiaaGreatDoor
open Go.RowKit
theorem firstE_mem {α : Type} {f : Nat → Option α} {r : α} : ∀ {n : Nat}, firstE n f = some r → ∃ j, j < n ∧ f j = some r
  | n + 1, h => by
    rw [firstE] at h
    split at h
    · rename_i r' hr
      cases h
      obtain ⟨j, hj, e⟩ := firstE_mem hr
      exact ⟨j, by omega, e⟩
    · exact ⟨n, by omega, h⟩
theorem orE_some {α : Type} {a b : Option α} {r : α} (h : orE a b = some r) : a = some r ∨ b = some r := by
  cases a with
  | none => exact .inr h
  | some x => exact .inl h
theorem fldM_code {l : List FieldD} {i : Nat} {e : Int} (h : fldM l i = some e) : e ≠ 0 := by
  rw [fldM] at h
  split at h
  · cases h
  · split at h
    · cases h; simp
    · split at h
      · cases h; simp
      · split at h
        · cases h; simp
        · cases h
theorem checkM_code {p : ProgD} {d : DiagD} (h : checkM p = some d) : d.code ≠ 0 := by
  rw [checkM] at h
  rcases orE_some h with h | h
  · rw [limM] at h
    repeat' split at h
    all_goals first | (cases h; simp) | cases h
  rcases orE_some h with h | h
  · obtain ⟨j, _, h⟩ := firstE_mem h
    rw [hdrAtM] at h
    split at h
    · cases h
    · split at h
      · rename_i hc; cases h; exact hc
      · repeat' split at h
        all_goals first | (cases h; simp) | cases h
  rcases orE_some h with h | h
  · rw [metaM] at h
    split at h
    · cases h; simp
    · split at h
      · rename_i d' hd
        cases h
        obtain ⟨j, _, h⟩ := firstE_mem hd
        obtain ⟨e, he, rfl⟩ := Option.map_eq_some_iff.1 h
        exact fldM_code he
      · obtain ⟨j, _, h⟩ := firstE_mem h
        split at h
        · cases h; simp
        · cases h
  rcases orE_some h with h | h
  · obtain ⟨j, _, h⟩ := firstE_mem h
    rw [regAtM] at h
    split at h
    · cases h
    · split at h
      · rename_i hc; cases h; exact hc
      · split at h
        · cases h; simp
        · cases h
  rcases orE_some h with h | h
  · obtain ⟨j, _, h⟩ := firstE_mem h
    rw [actAtM] at h
    split at h
    · cases h
    · split at h
      · rename_i hc; cases h; exact hc
      · split at h
        · cases h; simp
        · cases h
  rcases orE_some h with h | h
  · obtain ⟨j, _, h⟩ := firstE_mem h
    rw [tabAtM] at h
    split at h
    · cases h
    · split at h
      · rename_i hc; cases h; exact hc
      · split at h
        · cases h; simp
        · cases h
  · rw [flowM] at h
    split at h
    · rename_i hc; cases h; exact hc
    · split at h
      · rename_i hc; cases h; exact hc
      · split at h
        · rename_i hc; cases h; exact hc
        · cases h
theorem diagM_ok {p : ProgD} (h : (diagM p).code = 0) : checkM p = none := by
  rw [diagM] at h
  cases hc : checkM p with
  | none => rfl
  | some d => rw [hc] at h; exact absurd h (checkM_code hc)
end Go.Proofs.YtofjapcgbajmiaaGreatDoor
namespace Go.Proofs.YtofjapcgbajmiaaGreatDoor
open Go.RowKit
theorem Tryz.infoTok : (Tryz.prog.info? 191).map (fun i => (i.zero, i.size, i.bytes)) = some (some (.agg #[.int .i64 0, .string ⟨#[]⟩, .int .u32 0, .int .i64 0]), 4, 40) := by kernel_rfl
set_option maxRecDepth 100000 in
set_option maxHeartbeats 400000 in
theorem nl_any (c : Int) (w : World) :
    Calls Tryz.prog 126 #[.int .u8 c] w fun e w' => e = .returned (.bool (notNl c)) ∧ w = w' := by
  go_enter Tryz.func126, Tryz.ntmps126
  go_wp2
  go_ret
  exact ⟨rfl, rfl⟩
theorem ext_nl (s : ByteArray) (w : World) (hs : s.size ≤ maxLen) :
    Calls Tryz.prog 125 #[.string s, .func (.func 126) #[] #[]] w fun e w' => e = .returned (.int .i64 (ext notNl s.data.toList)) ∧ w = w' :=
  extent_any _ notNl s w hs (fun _ _ => by kernel_rfl) (Lib.hid nl_any)
def TokRel (s : ByteArray) (w : World) (sv lv av : Value) (wr : World) : Prop :=
  ∃ (t : ByteArray) (at_ : Nat) (out : List Tk) (A : Option Addr) (c : Nat), sv = .string t ∧ t.size ≤ s.size ∧ av = .int .i64 at_ ∧ at_ + t.size ≤ s.size + 1 ∧ out.length + t.size ≤ s.size ∧
    lv = .slice A out.length c ∧ out.length ≤ c ∧ wr.ownsRow w.heap.size 191 4 (.slice A out.length c) out.length (tkCells out) ∧ Below w.heap.size w wr ∧
    tokM s.data.toList.length s.data.toList 1 [] = tokM s.data.toList.length t.data.toList at_ out
def TokEnd (s : ByteArray) (w : World) (e : Ending) (w' : World) : Prop :=
  ∃ (A : Option Addr) (c : Nat), e = .returned (.tuple #[.slice A (tokenize s.data.toList).1.length c, .int .i64 (tokenize s.data.toList).2.1, .int .i64 (tokenize s.data.toList).2.2]) ∧ (tokenize s.data.toList).1.length ≤ c ∧
    w'.ownsRow w.heap.size 191 4 (.slice A (tokenize s.data.toList).1.length c) (tokenize s.data.toList).1.length (tkCells (tokenize s.data.toList).1) ∧ Below w.heap.size w w'
def strSize : Value → Nat
  | .string t => t.size
  | _ => 0
theorem size_rest (t : ByteArray) (k : Nat) : (t.extract k t.size).size = t.size - k := by simp
theorem tok_step {s t : ByteArray} {at_ : Nat} {out : List Tk} (h : tokM s.data.toList.length s.data.toList 1 [] = tokM s.data.toList.length t.data.toList at_ out) (ht : t.size ≤ s.size) (h0 : 0 < t.size)
    {k : Nat} (hk : 0 < k) {b : Nat} {out' : List Tk} (hs : ∀ n, tokM (n + 1) t.data.toList at_ out = tokM n (t.data.toList.drop k) b out') :
    tokM s.data.toList.length s.data.toList 1 [] = tokM s.data.toList.length (t.extract k t.size).data.toList b out' := by
  rw [h, Lib.extract_to_end]
  obtain ⟨n, hn⟩ : ∃ n, s.data.toList.length = n + 1 := ⟨s.data.toList.length - 1, by have : s.data.toList.length = s.size := rfl; omega⟩
  rw [hn, hs n]
  have e : (t.data.toList.drop k).length = t.size - k := by rw [List.length_drop]; rfl
  have e2 : s.data.toList.length = s.size := rfl
  exact tokM_fuel _ _ _ _ _ (by omega) (by omega)
set_option maxRecDepth 100000 in
set_option maxHeartbeats 2000000 in
theorem tokenize_any (s : ByteArray) (w : World) (hs0 : s.size ≤ maxLen) :
    Calls Tryz.prog 60 #[.string s] w fun e w' => TokEnd s w e w' := by
  unfold maxLen at hs0
  by_cases hlong : 16384 < s.size
  · go_enter Tryz.func60, Tryz.ntmps60
    go_wp2
    go_step3
    go_wp2
    rw [Exit.noGoto_ret]
    go_ret3
    have e : tokenize s.data.toList = ([], 0, 4) := by rw [tokenize, if_pos (show 16384 < s.data.toList.length from hlong)]
    refine ⟨none, 0, ?_⟩
    rw [e]
    exact ⟨rfl, Nat.le_refl _, World.ownsRow_nil _ _ _ _, Below.refl _ _⟩
  · obtain ⟨i0, hi, hz0, hz1, hz2⟩ := info_parts Tryz.infoTok
    have hs : s.size ≤ 16384 := by omega
    have HT : Hid (tokenize s.data.toList = tokM s.data.toList.length s.data.toList 1 []) := by
      refine Lib.hid ?_
      rw [tokenize, if_neg (show ¬ 16384 < s.data.toList.length from hlong)]
    clear hs0
    go_enter Tryz.func60, Tryz.ntmps60
    go_wp2
    go_step3
    go_wp2
    go_step3
    go_wp2
    go_loopw [0, 2, 5] (fun sv lv av wr => TokRel s w sv lv av wr) (fun sv _ _ _ => strSize sv)
    case atStart => exact ⟨s, 1, [], none, 0, rfl, Nat.le_refl _, rfl, by omega, by simp, rfl, Nat.le_refl _, World.ownsRow_nil _ _ _ _, Below.refl _ _, rfl⟩
    case round =>
      obtain ⟨t, at_, out, A, c, rfl, htl, rfl, hat, hout, rfl, hc, hown, hbel, hrun⟩ := hrel
      have HR := Lib.hid hrun
      clear hrun
      by_cases h0 : 0 < t.size
      · have HL := Lib.hid (list_one t h0)
        have hin : ∀ k : UInt8, t[0] ≠ k → ((t[0].toNat : Int) == (k.toNat : Int)) = false := fun k h => byte_ne h
        have HIN := Lib.hid hin
        clear hin
        by_cases h1 : t[0] = 10
        · have h1' : ((t[0].toNat : Int) == 10) = true := by rw [h1]; rfl
          have H1 := Lib.hid h1
          clear h1
          go_wp2
          go_roundw
          case rel =>
            refine ⟨t.extract 1 t.size, at_ + 1, out, A, c, rfl, by rw [size_rest]; omega, by go_num, by rw [size_rest]; omega, by rw [size_rest]; omega, rfl, hc, hown, hbel, ?_⟩
            refine tok_step HR.out htl h0 (k := 1) (by omega) fun n => ?_
            rw [HL.out, tokM]
            simp only [H1.out, if_true, List.drop_succ_cons, List.drop_zero]
          case measure => show (t.extract 1 t.size).size < t.size; rw [size_rest]; omega
        · have h1' : ((t[0].toNat : Int) == 10) = false := HIN.out 10 h1
          have H1 := Lib.hid h1
          clear h1
          by_cases h2 : t[0] = 32 ∨ t[0] = 9
          · have H2 := Lib.hid h2
            have h2' : ((t[0].toNat : Int) == 32) = true ∨ (((t[0].toNat : Int) == 32) = false ∧ ((t[0].toNat : Int) == 9) = true) := by
              rcases h2 with h | h
              · left; rw [h]; rfl
              · right; rw [h]; exact ⟨rfl, rfl⟩
            clear h2
            rcases h2' with h2' | ⟨h2', h3'⟩
            all_goals
              go_wp2
              go_roundw
              case rel =>
                refine ⟨t.extract 1 t.size, at_, out, A, c, rfl, by rw [size_rest]; omega, rfl, by rw [size_rest]; omega, by rw [size_rest]; omega, rfl, hc, hown, hbel, ?_⟩
                refine tok_step HR.out htl h0 (k := 1) (by omega) fun n => ?_
                rw [HL.out, tokM]
                simp only [H1.out, H2.out, if_true, if_false, List.drop_succ_cons, List.drop_zero]
              case measure => show (t.extract 1 t.size).size < t.size; rw [size_rest]; omega
          · have h2' : ((t[0].toNat : Int) == 32) = false := HIN.out 32 (fun h => h2 (.inl h))
            have h3' : ((t[0].toNat : Int) == 9) = false := HIN.out 9 (fun h => h2 (.inr h))
            have H2 := Lib.hid h2
            clear h2
            by_cases h4 : t[0] = 35
            · have h4' : ((t[0].toNat : Int) == 35) = true := by rw [h4]; rfl
              have H4 := Lib.hid h4
              clear h4
              have hle : ext notNl t.data.toList ≤ t.size := ext_le _ _
              have hpos : 0 < ext notNl t.data.toList := by rw [HL.out, ext, if_pos (by rw [H4.out]; decide)]; omega
              go_wp2_with fail
              refine (ext_nl _ _ (by unfold maxLen; omega)).mono ?_
              rintro e w' ⟨rfl, rfl⟩
              go_wp2
              go_roundw
              case rel =>
                refine ⟨t.extract (ext notNl t.data.toList) t.size, at_, out, A, c, rfl, by rw [size_rest]; omega, rfl, by rw [size_rest]; omega, by rw [size_rest]; omega, rfl, hc, hown, hbel, ?_⟩
                refine tok_step HR.out htl h0 hpos fun n => ?_
                rw [HL.out, tokM, if_neg H1.out, if_neg H2.out, if_pos H4.out]
              case measure => show (t.extract _ t.size).size < t.size; rw [size_rest]; omega
            · have h4' : ((t[0].toNat : Int) == 35) = false := HIN.out 35 h4
              have H4 := Lib.hid h4
              clear h4
              by_cases h5 : 4096 ≤ out.length
              · go_wp2
                rw [Exit.noGoto_ret]
                go_ret3
                have e : tokenize s.data.toList = ([], at_, 12) := by
                  obtain ⟨n, hn⟩ : ∃ n, s.data.toList.length = n + 1 := ⟨s.data.toList.length - 1, by have : s.data.toList.length = s.size := rfl; omega⟩
                  rw [HT.out, HR.out, hn, HL.out, tokM, if_neg H1.out, if_neg H2.out, if_neg H4.out, if_pos h5]
                refine ⟨none, 0, ?_⟩
                rw [e]
                exact ⟨rfl, Nat.le_refl _, World.ownsRow_nil _ _ _ _, hbel⟩
              · go_wp2_with fail
                refine (next_any t _ (by omega) h0).mono ?_
                rintro e w1 ⟨rfl, hb⟩
                rcases hn : nextM t.data.toList with ⟨tk, f⟩
                rw [show nextEnd t.data.toList = .returned (.tuple #[.agg #[.int .i64 tk.kind, .string ⟨tk.text.toArray⟩, .int .u32 tk.value, .int .i64 tk.line], .int .i64 f]) from by rw [nextEnd, hn]; rfl]
                have HN := Lib.hid hn
                clear hn
                have hown1 := own_below hown hb
                have hbel1 := hbel.trans (hb.mono hbel.size)
                clear hown hbel hb
                by_cases h6 : f = 0
                · have H6 := Lib.hid h6
                  have h6' : ((f : Int) != 0) = false := by rw [h6]; rfl
                  have hpl := nextM_len t.data.toList (by rw [HN.out]; exact H6.out)
                  rw [HN.out] at hpl
                  simp only at hpl
                  obtain ⟨hpl0, hpl1⟩ := hpl
                  replace hpl1 : tk.text.length ≤ t.size := hpl1
                  clear h6
                  go_wp2_with (first
                    | (at_builtin; refine wpList_append_own _ rfl _ _ 117 rfl w.heap.size 191 i0 _ 4 40 Tryz.underlying117 hi hz0 hz1 hz2 rfl (by decide) _ _ _ rfl ((hown1.alloc _).alloc _) ⟨w1.heap.size + 1, 0, none⟩ 1 1 [.int .i64 tk.kind, .string ⟨tk.text.toArray⟩, .int .u32 tk.value, .int .i64 at_] rfl rfl ?c1 ?c2 ?c3 ?c4 ?c5 ?_))
                  case c1 =>
                    intro j u hj
                    match j, hj with
                    | 0, hj => simp at hj; subst hj; simp [Addr.add]
                    | 1, hj => simp at hj; subst hj; simp [Addr.add]
                    | 2, hj => simp at hj; subst hj; simp [Addr.add]
                    | 3, hj => simp at hj; subst hj; simp [Addr.add]
                  case c2 => intro u hu; simp at hu; rcases hu with rfl | rfl | rfl | rfl <;> rfl
                  case c3 => unfold maxLen; omega
                  case c4 => omega
                  case c5 => have := hbel1.size; simp; omega
                  intro v' w2 hown2 hgrow _
                  have hbel2 : Below w.heap.size w w2 := by
                    refine (below_alloc (below_alloc hbel1 _) _).grown hgrow (by have := hbel1.size; simp; omega) fun k hk => ?_
                    exact (hown1.lt k hk).1
                  have HB := Lib.hid hbel2
                  have HO := Lib.hid hown2
                  obtain ⟨A', c', hv, hc'⟩ := own_slice hown2
                  have HC := Lib.hid hc'
                  have HV := Lib.hid hv
                  clear hbel2 hown2 hgrow hc' hbel1 hown1 hv
                  go_wp2
                  go_roundw
                  case rel =>
                    have hl : (out ++ [({ tk with line := at_ } : Tk)]).length = out.length + 1 := by simp
                    refine ⟨t.extract tk.text.length t.size, at_, out ++ [{ tk with line := at_ }], A', c', rfl, by rw [size_rest]; omega, rfl, by rw [size_rest]; omega, by rw [size_rest, hl]; omega, by rw [hl]; exact HV.out, by rw [hl]; exact HC.out, ?_, HB.out, ?_⟩
                    · rw [hl, tkCells_snoc, ← HV.out]
                      exact HO.out
                    · refine tok_step HR.out htl h0 hpl0 fun n => ?_
                      rw [HL.out, tokM, if_neg H1.out, if_neg H2.out, if_neg H4.out, if_neg h5, ← HL.out, HN.out, if_pos H6.out]
                  case measure => show (t.extract _ t.size).size < t.size; rw [size_rest]; omega
                · have h6' : ((f : Int) != 0) = true := by rw [bne_iff_ne]; omega
                  go_wp2
                  rw [Exit.noGoto_ret]
                  go_ret3
                  have e : tokenize s.data.toList = ([], at_, f) := by
                    obtain ⟨n, hn⟩ : ∃ n, s.data.toList.length = n + 1 := ⟨s.data.toList.length - 1, by have : s.data.toList.length = s.size := rfl; omega⟩
                    rw [HT.out, HR.out, hn, HL.out, tokM, if_neg H1.out, if_neg H2.out, if_neg H4.out, if_neg h5, ← HL.out, HN.out, if_neg h6]
                  refine ⟨none, 0, ?_⟩
                  rw [e]
                  exact ⟨rfl, Nat.le_refl _, World.ownsRow_nil _ _ _ _, hbel1.alloc hbel1.size _⟩
      · have hz : t.data.toList = [] := List.eq_nil_of_length_eq_zero (show t.size = 0 by omega)
        have HZ := Lib.hid hz
        clear hz
        go_wp2
        try rw [Exit.noGoto_ret]
        go_ret3
        have e : tokenize s.data.toList = (out, 0, 0) := by
          rw [HT.out, HR.out, HZ.out]
          cases s.data.toList.length <;> rfl
        refine ⟨A, c, ?_⟩
        rw [e]
        exact ⟨rfl, hc, hown, hbel⟩
end Go.Proofs.YtofjapcgbajmiaaGreatDoor
namespace Go.Proofs.YtofjapcgbajmiaaGreatDoor
open Go.RowKit
def ParseEnd (w : World) (R : OpP × Int) (e : Ending) (w' : World) : Prop := ∃ o : OpD, e = .returned (.tuple #[.agg (opCells o), .int .i64 R.2]) ∧ o.bare = R.1 ∧ OpLies w' o w.heap.size ∧ Below w.heap.size w w'
theorem parse_end {w wx : World} {R : OpP × Int} {o : OpD} {z : Int} (hR : R = (o.bare, z)) (hB : Below w.heap.size w wx) (hL : OpLies wx o (w.heap.size + 2)) (x0 x1 x2 x3 x4 x5 x6 x7 x8 : Value) :
    ParseEnd w R (.returned (.tuple #[.agg (opCells o), .int .i64 z])) (((((((((wx.setCell ⟨w.heap.size + 1, 0, none⟩ (x0)).setCell ⟨w.heap.size + 1, 1, none⟩ (x1)).setCell ⟨w.heap.size + 1, 2, none⟩ (x2)).setCell ⟨w.heap.size + 1, 3, none⟩ (x3)).setCell ⟨w.heap.size + 1, 4, none⟩ (x4)).setCell ⟨w.heap.size + 1, 5, none⟩ (x5)).setCell ⟨w.heap.size + 1, 6, none⟩ (x6)).setCell ⟨w.heap.size + 1, 7, none⟩ (x7)).setCell ⟨w.heap.size + 1, 8, none⟩ (x8)) := by
  subst hR
  have hk : w.heap.size + 1 < w.heap.size + 2 := Nat.lt_succ_self _
  have q := fun {u : World} (h : Below w.heap.size w u) (j : Nat) (v : Value) => h.setCell (p := ⟨w.heap.size + 1, j, none⟩) (Nat.le_succ _) v
  exact ⟨o, rfl, rfl, (((((((((hL.set hk).set hk).set hk).set hk).set hk).set hk).set hk).set hk).set hk).mono (Nat.le_add_right _ 2), q (q (q (q (q (q (q (q (q hB 0 x0) 1 x1) 2 x2) 3 x3) 4 x4) 5 x5) 6 x6) 7 x7) 8 x8⟩
theorem parse_drew {w w' : World} {R : OpP × Int} {e : Ending} (h : ParseEnd w R e w') : ParseEnd w R e w'.drew := by
  obtain ⟨o, h1, h2, h3, h4⟩ := h
  exact ⟨o, h1, h2, h3.below (below_drew (Below.refl _ _)), below_drew h4⟩
structure ProgG (w : World) (p : ProgD) : Prop where
  ok : ProgOk w p
  cap : ProgCap p
  nodes : (presM p.control.l).length ≤ 90000
  a : p.actions.l.length ≤ 1000
  t : p.tables.l.length ≤ 1000
theorem ProgG.below {w w' : World} {p : ProgD} (h : ProgG w p) (hb : Below w.heap.size w w') : ProgG w' p := ⟨h.ok.below hb, h.cap, h.nodes, h.a, h.t⟩
set_option maxRecDepth 100000 in
set_option maxHeartbeats 8000000 in
theorem oFormat_any (p : ProgD) (x : OpD) (w : World) (G : ProgG w p) (hx : OpOk w x) (hf : OpFine x.bare) (ht : Tab w) :
    Calls Tryz.prog 10 #[.agg (progCells p), .agg (opCells x)] w fun e w' => e = .returned (.tuple #[.string ⟨(formatM p x.bare).1.toArray⟩, .int .i64 (formatM p x.bare).2]) ∧ Below w.heap.size w w' := by
  obtain ⟨W, hW, hw, HB, hp⟩ := box2 w (progCells p) 31 (opCells x) 39
  have HW := Lib.hid hw
  have HCk := Lib.hid (fun u (hb : Below W.heap.size W u) => check_any p u (G.ok.below (below_step hw hb)) G.cap G.nodes)
  have HFo := Lib.hid (formatM.eq_1 p x.bare)
  have HFt := Lib.hid (fun (hz : (diagM p).code = 0) u (hb : Below W.heap.size W u) => oformat_any p x u (G.ok.below (below_step hw hb)) (diagM_ok hz) G.cap.dflt (hx.below (below_step hw hb)) hf (ht.base (below_step hw hb)))
  generalize fmtOp p x.bare = F at *
  generalize formatM p x.bare = R at *
  simp only [diag_val] at HCk
  generalize diagM p = d at *
  obtain ⟨dc, dp, di, ds⟩ := d
  simp only at HCk HFo HFt
  clear hw G hx hf ht
  by_cases hz : dc = 0
  · have HR := Lib.hid (HFo.out.trans (if_neg (fun h => h hz)))
    have HF := Lib.hid (HFt.out hz)
    subst hz
    clear HFo HFt
    go_enter Tryz.func10, Tryz.ntmps10
    go_upto_region 1 with fail
    rw [← hW]
    clear hW
    have hp3 := (hp W HB).1
    have hp4 := (hp W HB).2
    go_wp2_with fail
    refine (HCk.out _ (by first | exact HB | exact below_alloc HB _ | exact below_alloc (below_alloc HB _) _ | exact below_alloc (below_alloc (below_alloc HB _) _) _)).mono ?_
    rintro e w1 ⟨rfl, hbN⟩
    replace HB := below_step (by first | exact HB | exact below_alloc HB _ | exact below_alloc (below_alloc HB _) _ | exact below_alloc (below_alloc (below_alloc HB _) _) _) hbN
    clear hbN
    have hca := @World.cell?_alloc_some
    have hp3 := fun o => (hp _ (below_alloc HB o)).1
    have hp4 := fun o => (hp _ (below_alloc HB o)).2
    go_wp2_with fail
    refine (HF.out _ (below_alloc HB _)).mono ?_
    rintro e w2 ⟨rfl, hb2⟩
    have HB2 := Lib.hid (below_step (below_alloc HB _) hb2)
    clear hb2
    go_wp2
    go_ret2
    exact ⟨by rw [HR.out]; rfl, below_step HW.out HB2.out⟩
  · have HR := Lib.hid (HFo.out.trans (if_pos hz))
    have hz' : (dc != 0) = true := bne_iff_ne.2 hz
    clear HFo HFt hz
    go_enter Tryz.func10, Tryz.ntmps10
    go_upto_region 1 with fail
    rw [← hW]
    clear hW
    have hp3 := (hp W HB).1
    have hp4 := (hp W HB).2
    go_wp2_with fail
    refine (HCk.out _ (by first | exact HB | exact below_alloc HB _ | exact below_alloc (below_alloc HB _) _ | exact below_alloc (below_alloc (below_alloc HB _) _) _)).mono ?_
    rintro e w1 ⟨rfl, hbN⟩
    replace HB := below_step (by first | exact HB | exact below_alloc HB _ | exact below_alloc (below_alloc HB _) _ | exact below_alloc (below_alloc (below_alloc HB _) _) _) hbN
    clear hbN
    obtain ⟨X, hX⟩ : ∃ X, X = w1.alloc (.cells #[.int .i64 dc, .int .i64 dp, .int .i64 di, .int .i64 ds] 70) := ⟨_, rfl⟩
    have HXB : Hid (Blk X w1.heap.size 70 #[.int .i64 dc, .int .i64 dp, .int .i64 di, .int .i64 ds]) := Lib.hid (by rw [hX]; exact Blk.new _ _ _)
    have HBX : Hid (Below W.heap.size W X) := Lib.hid (by rw [hX]; exact below_alloc HB _)
    go_upto_region 2 with fail
    rw [← hX]
    clear hX hp3 hp4
    have c0 : X.cell? ⟨w1.heap.size, 0, none⟩ = some (.int .i64 dc) := HXB.out.cell 0
    go_upto_region 3 with fail
    go_quiet (fail)
    go_wp2
    go_ret2
    exact ⟨by rw [HR.out]; rfl, below_step HW.out (below_drewN HBX.out _)⟩
set_option maxRecDepth 100000 in
set_option maxHeartbeats 3000000 in
theorem oparse_any (p : ProgD) (s : ByteArray) (w : World) (G : ProgG w p) (hck : checkM p = none) (hs : s.size ≤ maxLen) (ht : Tab w) :
    Calls Tryz.prog 28 #[.agg (progCells p), .string s] w (ParseEnd w (readM p s.data.toList)) := by
  obtain ⟨W, hW, hw, hsz, b0, b1⟩ := box2P w (progCells p) #[.int .i64 0, .int .i64 0, .int .i64 0, .slice none 0 0, .int .i64 0, .int .i64 0, .slice none 0 0, .int .i64 0, .slice none 0 0] 31 39
  have HW := Lib.hid hw
  have HSz := Lib.hid hsz
  have HPB := Lib.hid b0
  have HRB := Lib.hid b1
  have HG := Lib.hid (G.below hw)
  have HT := Lib.hid (ht.base hw)
  have HC := Lib.hid hck
  have HTk := Lib.hid (tokenize_any s W hs)
  have HRM := Lib.hid (readM.eq_1 p s.data.toList)
  have HTO := Lib.hid (tokenize_ok s.data.toList)
  have HTL := Lib.hid (tokenize_len s.data.toList)
  clear hw hsz b0 b1 G ht hck hs
  unfold TokEnd at HTk
  generalize readM p s.data.toList = R at *
  generalize tokenize s.data.toList = tz at *
  obtain ⟨ts, tln, te⟩ := tz
  simp only at HTk HRM HTO HTL
  go_enter Tryz.func28, Tryz.ntmps28
  go_upto_region 1 with fail
  rw [← hW]
  clear hW
  go_wp2_with fail
  refine HTk.out.mono ?_
  rintro e1 w1 ⟨A, c, rfl, hlc, hown, hb1⟩
  have HB1 := Lib.hid hb1
  have HL1 := Lib.hid (own_tk hown (Nat.le_trans HTO.out.2 (by unfold maxLen; decide)))
  have HR1 := Lib.hid (HRB.out.below hb1 HRB.out.lt)
  have HP1 := Lib.hid (HPB.out.below hb1 HPB.out.lt)
  clear hlc hown hb1 HTk HRB HPB
  by_cases hz : te = 0
  case neg =>
    have HRX : Hid (R = (zeroO.bare, (te : Int))) := Lib.hid (HRM.out.trans (if_pos (by omega)))
    have hz' : ((te : Int) != 0) = true := bne_iff_ne.2 (by omega)
    clear hz HRM
    have q0 : w1.cell? ⟨w.heap.size + 1, 0, none⟩ = some (.int .i64 0) := HR1.out.cell 0
    have g0 : w1.frozen? ⟨w.heap.size + 1, 0, none⟩ = false := HR1.out.frozen 0
    have q1 : w1.cell? ⟨w.heap.size + 1, 1, none⟩ = some (.int .i64 0) := HR1.out.cell 1
    have g1 : w1.frozen? ⟨w.heap.size + 1, 1, none⟩ = false := HR1.out.frozen 1
    have q2 : w1.cell? ⟨w.heap.size + 1, 2, none⟩ = some (.int .i64 0) := HR1.out.cell 2
    have g2 : w1.frozen? ⟨w.heap.size + 1, 2, none⟩ = false := HR1.out.frozen 2
    have q3 : w1.cell? ⟨w.heap.size + 1, 3, none⟩ = some (.slice none 0 0) := HR1.out.cell 3
    have g3 : w1.frozen? ⟨w.heap.size + 1, 3, none⟩ = false := HR1.out.frozen 3
    have q4 : w1.cell? ⟨w.heap.size + 1, 4, none⟩ = some (.int .i64 0) := HR1.out.cell 4
    have g4 : w1.frozen? ⟨w.heap.size + 1, 4, none⟩ = false := HR1.out.frozen 4
    have q5 : w1.cell? ⟨w.heap.size + 1, 5, none⟩ = some (.int .i64 0) := HR1.out.cell 5
    have g5 : w1.frozen? ⟨w.heap.size + 1, 5, none⟩ = false := HR1.out.frozen 5
    have q6 : w1.cell? ⟨w.heap.size + 1, 6, none⟩ = some (.slice none 0 0) := HR1.out.cell 6
    have g6 : w1.frozen? ⟨w.heap.size + 1, 6, none⟩ = false := HR1.out.frozen 6
    have q7 : w1.cell? ⟨w.heap.size + 1, 7, none⟩ = some (.int .i64 0) := HR1.out.cell 7
    have g7 : w1.frozen? ⟨w.heap.size + 1, 7, none⟩ = false := HR1.out.frozen 7
    have q8 : w1.cell? ⟨w.heap.size + 1, 8, none⟩ = some (.slice none 0 0) := HR1.out.cell 8
    have g8 : w1.frozen? ⟨w.heap.size + 1, 8, none⟩ = false := HR1.out.frozen 8
    go_wp2
    refine bodyPost_ret (v := .tuple #[.agg (opCells zeroO), .int .i64 te]) ?_ rfl ?_
    · exact results_row_tmp (fn := Tryz.f28) (p := 4) (u := 5) (ty := 39) rfl _ _ (w.heap.size + 1) 39 (opCells zeroO) _ rfl (put9O HR1.out _ _ _ _ _ _ _ _ _) Tryz.underlying39 rfl (by kernel_rfl)
    · exact parse_end (o := zeroO) (by rw [HRX.out]) (below_step HW.out HB1.out) (zero_lies _ _) _ _ _ _ _ _ _ _ _
  have HRM2 := Lib.hid (HRM.out.trans (if_neg (by omega)))
  subst hz
  clear HRM
  have hp3 : ∀ i, w1.cell? ⟨w.heap.size, i, none⟩ = (progCells p)[i]? := fun i => HP1.out.cell i
  have HNW := Lib.hid (onew_any p ⟨ts, A, c⟩ w1 HL1.out HTO.out.1 HTO.out.2 (HG.out.ok.below HB1.out))
  go_wp2_with fail
  refine HNW.out.mono ?_
  rintro e2 w2 ⟨r, hrx, hrp, rfl, E, hS, hb2, hlt⟩
  obtain ⟨gR, gA, gL, rx, rp⟩ := r
  try simp only at hrx hrp hlt
  have hrx' := hrx.symm
  have hrp' := hrp.symm
  clear hrx hrp
  subst hrx' hrp'
  have HE := Lib.hid E
  have HS := Lib.hid hS
  have HB2 := Lib.hid (below_step HB1.out hb2)
  have HR2 := Lib.hid (HR1.out.below hb2 HR1.out.lt)
  have HP2 := Lib.hid (HP1.out.below hb2 HP1.out.lt)
  have HNE : Hid (w.heap.size + 1 < gR ∧ w.heap.size + 1 < gA ∧ w.heap.size < gR ∧ w.heap.size < gA) := Lib.hid (by
    have h1 := HE.out.rr
    have h2 := HE.out.a
    have h3 := HR1.out.lt
    simp only at h1 h2
    omega)
  have HOP := Lib.hid (ooper HE.out HS.out HG.out.a HG.out.t HTL.out)
  try simp only at HOP
  clear hp3 E hS hb2 hlt HNW HR1 HP1 HL1
  go_wp2_with fail
  refine HOP.out.mono ?_
  rintro e3 w3 ⟨o, rfl, hob, hok, hS3⟩
  have hok2 : OpLies w3 o (w.heap.size + 2) := hok.mono (by have h1 := HB2.out.size; have h2 := HSz.out; omega)
  have HS3 := Lib.hid hS3
  have HOK := Lib.hid hok2
  have HR3 := Lib.hid (hS3.gr.blk HR2.out (by have := HNE.out; simp only; omega) (by have := HNE.out; simp only; omega))
  have HP3 := Lib.hid (hS3.gr.blk HP2.out (by have := HNE.out; simp only; omega) (by have := HNE.out; simp only; omega))
  have HB3 : Hid (Below W.heap.size W w3) := Lib.hid (below_step HB1.out hS3.base)
  have HFN : Hid (OpFine o.bare) := Lib.hid (by rw [hob]; exact opA_wf HTO.out.1 HG.out.a HG.out.t)
  try simp only at hob
  rw [← hob] at HRM2
  have HFM := Lib.hid (fmtOp.eq_1 p o.bare)
  clear hok hok2 hS3 hob HOP HS HR2 HP2 HB2
  generalize (opA p ts).2 = so at *
  obtain ⟨X, hX⟩ : ∃ X, X = w3.alloc (.cells (opCells o) 39) := ⟨_, rfl⟩
  have HXO : Hid (Blk X w3.heap.size 39 (opCells o)) := Lib.hid (by rw [hX]; exact Blk.new _ _ _)
  have HBX : Hid (Below W.heap.size W X) := Lib.hid (by rw [hX]; exact below_alloc HB3.out _)
  have HB3X : Hid (Below w3.heap.size w3 X) := Lib.hid (by rw [hX]; exact below1 _ _)
  have HRX := Lib.hid (HR3.out.below HB3X.out HR3.out.lt)
  have HPX := Lib.hid (HP3.out.below HB3X.out HP3.out.lt)
  have HSX := Lib.hid (HS3.out.below HB3X.out)
  have HOX := Lib.hid (HOK.out.below HB3X.out)
  go_upto_region 6 with fail
  rw [← hX]
  clear hX HS3 HR3 HP3 HB3 HOK HB3X
  try simp only at HSX
  generalize endA ts so = se at *
  cases se with
  | bad e =>
    obtain ⟨bR, he⟩ := HSX.out.badc
    have HEN0 := Lib.hid he
    have HRR : Hid (R = (zeroO.bare, (e : Int))) := Lib.hid HRM2.out
    have c11 : X.cell? ⟨gR, 11, none⟩ = some (.int .i64 e) := bR.cell 11
    have he' : ((e : Int) != 0) = true := bne_iff_ne.2 (by omega)
    have HbR := Lib.hid bR
    have HCR := Lib.hid c11
    clear bR he he' HRM2 c11
    have he' : ((e : Int) != 0) = true := bne_iff_ne.2 (by have := HEN0.out; omega)
    have c11 : X.cell? ⟨gR, 11, none⟩ = some (.int .i64 e) := HCR.out
    go_upto_region 7 with fail
    clear c11
    refine wp_region_held_drew (S := (fun u => u.cell? ⟨gR, 11, none⟩ = some (.int .i64 e))) (by kernel_rfl) (HCR.out) (fun hHeld => ?_)
    refine wpAnyH_take (i := 0) (oi := { dst := some 32, op := Op.build 39 #[], type := 39, pos := "optext.go:205", after := #[], guard := none }) (v := ?a1_v0) rfl (by kernel_rfl) (by kernel_rfl) (by kernel_rfl) (fun _ _ _ h => h) (Or.inl ⟨by rfl, ?a1_y0⟩) (by assumption) ?a1_r0
    case a1_y0 => (intro w hSw; (try dsimp only at hSw); go_simp; try (with_reducible rfl))
    try simp only [Act.put, List.setIfInBounds_toArray, List.set_cons_zero, List.set_cons_succ]
    refine wpAnyH_take (i := 1) (oi := { dst := some 33, op := Op.move (Operand.tmp 9), type := 120, pos := "optext.go:205", after := #[{ on := 5, ground := Ground.gcOnly Departure.lateStores }], guard := none }) (v := ?a2_v1) rfl (by kernel_rfl) (by kernel_rfl) (by kernel_rfl) (fun _ _ _ h => h) (Or.inl ⟨by rfl, ?a2_y1⟩) (by assumption) ?a2_r1
    case a2_y1 => (intro w hSw; (try dsimp only at hSw); go_simp; try (with_reducible rfl))
    try simp only [Act.put, List.setIfInBounds_toArray, List.set_cons_zero, List.set_cons_succ]
    refine wpAnyH_take (i := 2) (oi := { dst := some 34, op := Op.nilCheck (Operand.tmp 33), type := 0, pos := "optext.go:205", after := #[{ on := 1, ground := Ground.data }, { on := 5, ground := Ground.gcOnly Departure.lateStores }], guard := none }) (v := ?a3_v2) rfl (by kernel_rfl) (by kernel_rfl) (by kernel_rfl) (fun _ _ _ h => h) (Or.inl ⟨by rfl, ?a3_y2⟩) (by assumption) ?a3_r2
    case a3_y2 => (intro w hSw; (try dsimp only at hSw); go_simp; try (with_reducible rfl))
    try simp only [Act.put, List.setIfInBounds_toArray, List.set_cons_zero, List.set_cons_succ]
    refine wpAnyH_take (i := 3) (oi := { dst := some 35, op := Op.fieldAddr 125 (Operand.tmp 34) 3, type := 0, pos := "optext.go:205", after := #[{ on := 2, ground := Ground.data }, { on := 5, ground := Ground.gcOnly Departure.lateStores }], guard := none }) (v := ?a4_v3) rfl (by kernel_rfl) (by kernel_rfl) (by kernel_rfl) (fun _ _ _ h => h) (Or.inl ⟨by rfl, ?a4_y3⟩) (by assumption) ?a4_r3
    case a4_y3 => (intro w hSw; (try dsimp only at hSw); go_simp; try (with_reducible rfl))
    try simp only [Act.put, List.setIfInBounds_toArray, List.set_cons_zero, List.set_cons_succ]
    refine wpAnyH_take (i := 4) (oi := { dst := some 36, op := Op.load 43 (Operand.tmp 35), type := 43, pos := "optext.go:205", after := #[{ on := 3, ground := Ground.data }, { on := 5, ground := Ground.gcOnly Departure.lateStores }], guard := none }) (v := ?a5_v4) rfl (by kernel_rfl) (by kernel_rfl) (by kernel_rfl) (fun _ _ _ h => h) (Or.inl ⟨by rfl, ?a5_y4⟩) (by assumption) ?a5_r4
    case a5_y4 => (intro w hSw; (try dsimp only at hSw); go_simp; try (with_reducible rfl))
    try simp only [Act.put, List.setIfInBounds_toArray, List.set_cons_zero, List.set_cons_succ]
    refine wpAnyH_ready (rs := [5]) (by kernel_rfl) (by simp) ?_
    refine AllReadyH.cons (o := { dst := none, op := Op.store 39 (Operand.tmp 4) (Operand.tmp 32), type := 0, pos := "optext.go:205", after := #[{ on := 0, ground := Ground.data }, { on := 0, ground := Ground.phase }, { on := 1, ground := Ground.textOnly Departure.lateStores }, { on := 2, ground := Ground.textOnly Departure.lateStores }, { on := 3, ground := Ground.textOnly Departure.lateStores }, { on := 4, ground := Ground.textOnly Departure.lateStores }], guard := none }) rfl (fun K hK => ?_) (AllReadyH.nil)
    have q0 : X.cell? ⟨w.heap.size + 1, 0, none⟩ = some (.int .i64 0) := HRX.out.cell 0
    have g0 : X.frozen? ⟨w.heap.size + 1, 0, none⟩ = false := HRX.out.frozen 0
    have q1 : X.cell? ⟨w.heap.size + 1, 1, none⟩ = some (.int .i64 0) := HRX.out.cell 1
    have g1 : X.frozen? ⟨w.heap.size + 1, 1, none⟩ = false := HRX.out.frozen 1
    have q2 : X.cell? ⟨w.heap.size + 1, 2, none⟩ = some (.int .i64 0) := HRX.out.cell 2
    have g2 : X.frozen? ⟨w.heap.size + 1, 2, none⟩ = false := HRX.out.frozen 2
    have q3 : X.cell? ⟨w.heap.size + 1, 3, none⟩ = some (.slice none 0 0) := HRX.out.cell 3
    have g3 : X.frozen? ⟨w.heap.size + 1, 3, none⟩ = false := HRX.out.frozen 3
    have q4 : X.cell? ⟨w.heap.size + 1, 4, none⟩ = some (.int .i64 0) := HRX.out.cell 4
    have g4 : X.frozen? ⟨w.heap.size + 1, 4, none⟩ = false := HRX.out.frozen 4
    have q5 : X.cell? ⟨w.heap.size + 1, 5, none⟩ = some (.int .i64 0) := HRX.out.cell 5
    have g5 : X.frozen? ⟨w.heap.size + 1, 5, none⟩ = false := HRX.out.frozen 5
    have q6 : X.cell? ⟨w.heap.size + 1, 6, none⟩ = some (.slice none 0 0) := HRX.out.cell 6
    have g6 : X.frozen? ⟨w.heap.size + 1, 6, none⟩ = false := HRX.out.frozen 6
    have q7 : X.cell? ⟨w.heap.size + 1, 7, none⟩ = some (.int .i64 0) := HRX.out.cell 7
    have g7 : X.frozen? ⟨w.heap.size + 1, 7, none⟩ = false := HRX.out.frozen 7
    have q8 : X.cell? ⟨w.heap.size + 1, 8, none⟩ = some (.slice none 0 0) := HRX.out.cell 8
    have g8 : X.frozen? ⟨w.heap.size + 1, 8, none⟩ = false := HRX.out.frozen 8
    have hfar : Blk ((((((((((X.setCell ⟨w.heap.size + 1, 0, none⟩ (.int .i64 0)).setCell ⟨w.heap.size + 1, 1, none⟩ (.int .i64 0)).setCell ⟨w.heap.size + 1, 2, none⟩ (.int .i64 0)).setCell ⟨w.heap.size + 1, 3, none⟩ (.slice none 0 0)).setCell ⟨w.heap.size + 1, 4, none⟩ (.int .i64 0)).setCell ⟨w.heap.size + 1, 5, none⟩ (.int .i64 0)).setCell ⟨w.heap.size + 1, 6, none⟩ (.slice none 0 0)).setCell ⟨w.heap.size + 1, 7, none⟩ (.int .i64 0)).setCell ⟨w.heap.size + 1, 8, none⟩ (.slice none 0 0)).drew) gR 125 (orCells ⟨gR, gA, gL, ⟨ts, A, c⟩, p⟩ e) := Blk.drew (far9 (k := w.heap.size + 1) HbR.out (by have := HNE.out; simp only; omega) (.int .i64 0) (.int .i64 0) (.int .i64 0) (.slice none 0 0) (.int .i64 0) (.int .i64 0) (.slice none 0 0) (.int .i64 0) (.slice none 0 0))
    have hNEW := hfar.cell 11
    clear hfar
    go_simp
    refine hK.out _ _ hNEW (fun hHeld7 => ?_)
    clear hK K hNEW
    refine wpAnyH_take (i := 6) (oi := { dst := some 5, op := Op.assign (Operand.tmp 36), type := 43, pos := "optext.go:205", after := #[{ on := 4, ground := Ground.data }, { on := 5, ground := Ground.chain }, { on := 0, ground := Ground.phase }, { on := 1, ground := Ground.phase }, { on := 2, ground := Ground.phase }, { on := 3, ground := Ground.phase }, { on := 4, ground := Ground.phase }, { on := 5, ground := Ground.phase }], guard := none }) (v := ?a6_v6) rfl (by kernel_rfl) (by kernel_rfl) (by kernel_rfl) (fun _ _ _ h => h) (Or.inl ⟨by rfl, ?a6_y6⟩) (by assumption) ?a6_r6
    case a6_y6 => (intro w hSw; (try dsimp only at hSw); go_simp; try (with_reducible rfl))
    try simp only [Act.put, List.setIfInBounds_toArray, List.set_cons_zero, List.set_cons_succ]
    refine wpAnyH_done (by kernel_rfl) ?_ _
    go_wp2
    refine bodyPost_ret (v := .tuple #[.agg (opCells zeroO), .int .i64 e]) ?_ rfl ?_
    · exact results_row_tmp (fn := Tryz.f28) (p := 4) (u := 5) (ty := 39) rfl _ _ (w.heap.size + 1) 39 (opCells zeroO) _ rfl (put9O HRX.out _ _ _ _ _ _ _ _ _).drew Tryz.underlying39 rfl (by kernel_rfl)
    · exact parse_drew (parse_end (o := zeroO) (by rw [HRR.out]) (below_step HW.out HBX.out) (zero_lies _ _) _ _ _ _ _ _ _ _ _)
  | ok i =>
    obtain ⟨bR, bA, hi1⟩ := HSX.out.okc
    have c11 : X.cell? ⟨gR, 11, none⟩ = some (.int .i64 0) := bR.cell 11
    clear bR bA hi1
    have hp3 : ∀ i, X.cell? ⟨w.heap.size, i, none⟩ = (progCells p)[i]? := fun i => HPX.out.cell i
    have ho3 : ∀ i, X.cell? ⟨w3.heap.size, i, none⟩ = (opCells o)[i]? := fun i => HXO.out.cell i
    have HFo := Lib.hid (oformat_any p o X (HG.out.ok.below HBX.out) HC.out HG.out.cap.dflt HOX.out.ok HFN.out (HT.out.base HBX.out))
    try simp only at HRM2
    generalize fmtOp p o.bare = F at *
    generalize opChk p o.bare = z at *
    generalize opT p o.bare = T at *
    go_wp2_with fail
    refine HFo.out.mono ?_
    rintro e4 w4 ⟨rfl, hb4⟩
    have HB4 := Lib.hid (below_step HBX.out hb4)
    have HR4 := Lib.hid (HRX.out.below hb4 HRX.out.lt)
    have HO4 := Lib.hid (HXO.out.below hb4 HXO.out.lt)
    have HK4 := Lib.hid (HOX.out.below hb4)
    clear hb4 HFo c11 hp3 ho3 HRX HXO HOX HPX HSX
    by_cases hz : z = 0
    · have HF2 : Hid (F = (T, 0)) := Lib.hid (HFM.out.trans (if_neg (fun h => h hz)))
      replace HRM2 := Lib.hid (HRM2.out.trans (if_neg (fun h => h hz)))
      rw [HF2.out]
      clear hz HFM HF2
      by_cases htx : T = s.data.toList
      · have HRR : Hid (R = (o.bare, 0)) := Lib.hid (HRM2.out.trans (if_neg (fun h => h htx)))
        subst htx
        have hst : ((⟨s.data.toList.toArray⟩ : ByteArray)) = s := rfl
        rw [hst]
        clear HRM2 hst
        obtain ⟨kd, tb, id, ⟨kl, kA, kc⟩, pr, ea, ⟨el, eA, ec⟩, ca, ⟨cl, cA, cc⟩⟩ := o
        have d0 : w4.cell? ⟨w3.heap.size, 0, none⟩ = some (.int .i64 kd) := HO4.out.cell 0
        have d1 : w4.cell? ⟨w3.heap.size, 1, none⟩ = some (.int .i64 tb) := HO4.out.cell 1
        have d2 : w4.cell? ⟨w3.heap.size, 2, none⟩ = some (.int .i64 id) := HO4.out.cell 2
        have d3 : w4.cell? ⟨w3.heap.size, 3, none⟩ = some (.slice kA kl.length kc) := HO4.out.cell 3
        have d4 : w4.cell? ⟨w3.heap.size, 4, none⟩ = some (.int .i64 pr) := HO4.out.cell 4
        have d5 : w4.cell? ⟨w3.heap.size, 5, none⟩ = some (.int .i64 ea) := HO4.out.cell 5
        have d6 : w4.cell? ⟨w3.heap.size, 6, none⟩ = some (.slice eA el.length ec) := HO4.out.cell 6
        have d7 : w4.cell? ⟨w3.heap.size, 7, none⟩ = some (.int .i64 ca) := HO4.out.cell 7
        have d8 : w4.cell? ⟨w3.heap.size, 8, none⟩ = some (.slice cA cl.length cc) := HO4.out.cell 8
        have q0 : w4.cell? ⟨w.heap.size + 1, 0, none⟩ = some (.int .i64 0) := HR4.out.cell 0
        have g0 : w4.frozen? ⟨w.heap.size + 1, 0, none⟩ = false := HR4.out.frozen 0
        have q1 : w4.cell? ⟨w.heap.size + 1, 1, none⟩ = some (.int .i64 0) := HR4.out.cell 1
        have g1 : w4.frozen? ⟨w.heap.size + 1, 1, none⟩ = false := HR4.out.frozen 1
        have q2 : w4.cell? ⟨w.heap.size + 1, 2, none⟩ = some (.int .i64 0) := HR4.out.cell 2
        have g2 : w4.frozen? ⟨w.heap.size + 1, 2, none⟩ = false := HR4.out.frozen 2
        have q3 : w4.cell? ⟨w.heap.size + 1, 3, none⟩ = some (.slice none 0 0) := HR4.out.cell 3
        have g3 : w4.frozen? ⟨w.heap.size + 1, 3, none⟩ = false := HR4.out.frozen 3
        have q4 : w4.cell? ⟨w.heap.size + 1, 4, none⟩ = some (.int .i64 0) := HR4.out.cell 4
        have g4 : w4.frozen? ⟨w.heap.size + 1, 4, none⟩ = false := HR4.out.frozen 4
        have q5 : w4.cell? ⟨w.heap.size + 1, 5, none⟩ = some (.int .i64 0) := HR4.out.cell 5
        have g5 : w4.frozen? ⟨w.heap.size + 1, 5, none⟩ = false := HR4.out.frozen 5
        have q6 : w4.cell? ⟨w.heap.size + 1, 6, none⟩ = some (.slice none 0 0) := HR4.out.cell 6
        have g6 : w4.frozen? ⟨w.heap.size + 1, 6, none⟩ = false := HR4.out.frozen 6
        have q7 : w4.cell? ⟨w.heap.size + 1, 7, none⟩ = some (.int .i64 0) := HR4.out.cell 7
        have g7 : w4.frozen? ⟨w.heap.size + 1, 7, none⟩ = false := HR4.out.frozen 7
        have q8 : w4.cell? ⟨w.heap.size + 1, 8, none⟩ = some (.slice none 0 0) := HR4.out.cell 8
        have g8 : w4.frozen? ⟨w.heap.size + 1, 8, none⟩ = false := HR4.out.frozen 8
        go_wp2
        refine bodyPost_ret (v := .tuple #[.agg (opCells ⟨kd, tb, id, ⟨kl, kA, kc⟩, pr, ea, ⟨el, eA, ec⟩, ca, ⟨cl, cA, cc⟩⟩), .int .i64 0]) ?_ rfl ?_
        · exact results_row_tmp (fn := Tryz.f28) (p := 4) (u := 5) (ty := 39) rfl _ _ (w.heap.size + 1) 39 (opCells ⟨kd, tb, id, ⟨kl, kA, kc⟩, pr, ea, ⟨el, eA, ec⟩, ca, ⟨cl, cA, cc⟩⟩) _ rfl (put9O HR4.out _ _ _ _ _ _ _ _ _) Tryz.underlying39 rfl (by kernel_rfl)
        · exact parse_end (o := ⟨kd, tb, id, ⟨kl, kA, kc⟩, pr, ea, ⟨el, eA, ec⟩, ca, ⟨cl, cA, cc⟩⟩) (by rw [HRR.out]) (below_step HW.out HB4.out) HK4.out _ _ _ _ _ _ _ _ _
      · have HRR : Hid (R = (zeroO.bare, 23)) := Lib.hid (HRM2.out.trans (if_pos htx))
        have hq1 : (T == s.toList) = false := by rw [tx_eq, decide_eq_false htx]
        have hq2 : (T != s.toList) = true := by rw [bne, hq1]; rfl
        clear HRM2 htx
        have q0 : w4.cell? ⟨w.heap.size + 1, 0, none⟩ = some (.int .i64 0) := HR4.out.cell 0
        have g0 : w4.frozen? ⟨w.heap.size + 1, 0, none⟩ = false := HR4.out.frozen 0
        have q1 : w4.cell? ⟨w.heap.size + 1, 1, none⟩ = some (.int .i64 0) := HR4.out.cell 1
        have g1 : w4.frozen? ⟨w.heap.size + 1, 1, none⟩ = false := HR4.out.frozen 1
        have q2 : w4.cell? ⟨w.heap.size + 1, 2, none⟩ = some (.int .i64 0) := HR4.out.cell 2
        have g2 : w4.frozen? ⟨w.heap.size + 1, 2, none⟩ = false := HR4.out.frozen 2
        have q3 : w4.cell? ⟨w.heap.size + 1, 3, none⟩ = some (.slice none 0 0) := HR4.out.cell 3
        have g3 : w4.frozen? ⟨w.heap.size + 1, 3, none⟩ = false := HR4.out.frozen 3
        have q4 : w4.cell? ⟨w.heap.size + 1, 4, none⟩ = some (.int .i64 0) := HR4.out.cell 4
        have g4 : w4.frozen? ⟨w.heap.size + 1, 4, none⟩ = false := HR4.out.frozen 4
        have q5 : w4.cell? ⟨w.heap.size + 1, 5, none⟩ = some (.int .i64 0) := HR4.out.cell 5
        have g5 : w4.frozen? ⟨w.heap.size + 1, 5, none⟩ = false := HR4.out.frozen 5
        have q6 : w4.cell? ⟨w.heap.size + 1, 6, none⟩ = some (.slice none 0 0) := HR4.out.cell 6
        have g6 : w4.frozen? ⟨w.heap.size + 1, 6, none⟩ = false := HR4.out.frozen 6
        have q7 : w4.cell? ⟨w.heap.size + 1, 7, none⟩ = some (.int .i64 0) := HR4.out.cell 7
        have g7 : w4.frozen? ⟨w.heap.size + 1, 7, none⟩ = false := HR4.out.frozen 7
        have q8 : w4.cell? ⟨w.heap.size + 1, 8, none⟩ = some (.slice none 0 0) := HR4.out.cell 8
        have g8 : w4.frozen? ⟨w.heap.size + 1, 8, none⟩ = false := HR4.out.frozen 8
        go_wp2
        refine bodyPost_ret (v := .tuple #[.agg (opCells zeroO), .int .i64 23]) ?_ rfl ?_
        · exact results_row_tmp (fn := Tryz.f28) (p := 4) (u := 5) (ty := 39) rfl _ _ (w.heap.size + 1) 39 (opCells zeroO) _ rfl (put9O HR4.out _ _ _ _ _ _ _ _ _) Tryz.underlying39 rfl (by kernel_rfl)
        · exact parse_end (o := zeroO) (by rw [HRR.out]) (below_step HW.out HB4.out) (zero_lies _ _) _ _ _ _ _ _ _ _ _
    · have HF2 : Hid (F = ([], z)) := Lib.hid (HFM.out.trans (if_pos hz))
      have HRR : Hid (R = (zeroO.bare, z)) := Lib.hid (HRM2.out.trans (if_pos hz))
      have hz' : (z != 0) = true := bne_iff_ne.2 hz
      rw [HF2.out]
      clear hz HFM HF2 HRM2
      have q0 : w4.cell? ⟨w.heap.size + 1, 0, none⟩ = some (.int .i64 0) := HR4.out.cell 0
      have g0 : w4.frozen? ⟨w.heap.size + 1, 0, none⟩ = false := HR4.out.frozen 0
      have q1 : w4.cell? ⟨w.heap.size + 1, 1, none⟩ = some (.int .i64 0) := HR4.out.cell 1
      have g1 : w4.frozen? ⟨w.heap.size + 1, 1, none⟩ = false := HR4.out.frozen 1
      have q2 : w4.cell? ⟨w.heap.size + 1, 2, none⟩ = some (.int .i64 0) := HR4.out.cell 2
      have g2 : w4.frozen? ⟨w.heap.size + 1, 2, none⟩ = false := HR4.out.frozen 2
      have q3 : w4.cell? ⟨w.heap.size + 1, 3, none⟩ = some (.slice none 0 0) := HR4.out.cell 3
      have g3 : w4.frozen? ⟨w.heap.size + 1, 3, none⟩ = false := HR4.out.frozen 3
      have q4 : w4.cell? ⟨w.heap.size + 1, 4, none⟩ = some (.int .i64 0) := HR4.out.cell 4
      have g4 : w4.frozen? ⟨w.heap.size + 1, 4, none⟩ = false := HR4.out.frozen 4
      have q5 : w4.cell? ⟨w.heap.size + 1, 5, none⟩ = some (.int .i64 0) := HR4.out.cell 5
      have g5 : w4.frozen? ⟨w.heap.size + 1, 5, none⟩ = false := HR4.out.frozen 5
      have q6 : w4.cell? ⟨w.heap.size + 1, 6, none⟩ = some (.slice none 0 0) := HR4.out.cell 6
      have g6 : w4.frozen? ⟨w.heap.size + 1, 6, none⟩ = false := HR4.out.frozen 6
      have q7 : w4.cell? ⟨w.heap.size + 1, 7, none⟩ = some (.int .i64 0) := HR4.out.cell 7
      have g7 : w4.frozen? ⟨w.heap.size + 1, 7, none⟩ = false := HR4.out.frozen 7
      have q8 : w4.cell? ⟨w.heap.size + 1, 8, none⟩ = some (.slice none 0 0) := HR4.out.cell 8
      have g8 : w4.frozen? ⟨w.heap.size + 1, 8, none⟩ = false := HR4.out.frozen 8
      go_wp2
      refine bodyPost_ret (v := .tuple #[.agg (opCells zeroO), .int .i64 z]) ?_ rfl ?_
      · exact results_row_tmp (fn := Tryz.f28) (p := 4) (u := 5) (ty := 39) rfl _ _ (w.heap.size + 1) 39 (opCells zeroO) _ rfl (put9O HR4.out _ _ _ _ _ _ _ _ _) Tryz.underlying39 rfl (by kernel_rfl)
      · exact parse_end (o := zeroO) (by rw [HRR.out]) (below_step HW.out HB4.out) (zero_lies _ _) _ _ _ _ _ _ _ _ _
end Go.Proofs.YtofjapcgbajmiaaGreatDoor
namespace Go.Proofs.YtofjapcgbajmiaaGreatDoor
open Go.RowKit
set_option maxRecDepth 100000 in
set_option maxHeartbeats 3000000 in
theorem oParse_any (p : ProgD) (s : ByteArray) (w : World) (G : ProgG w p) (hs : s.size ≤ maxLen) (ht : Tab w) :
    Calls Tryz.prog 12 #[.agg (progCells p), .string s] w (ParseEnd w (parseOpM p s.data.toList)) := by
  obtain ⟨W, hW, hw, hsz, b0, b1⟩ := box2P w (progCells p) #[.int .i64 0, .int .i64 0, .int .i64 0, .slice none 0 0, .int .i64 0, .int .i64 0, .slice none 0 0, .int .i64 0, .slice none 0 0] 31 39
  have HW := Lib.hid hw
  have HSz := Lib.hid hsz
  have HPB := Lib.hid b0
  have HRB := Lib.hid b1
  have HG := Lib.hid (G.below hw)
  have HT := Lib.hid (ht.base hw)
  have HCk := Lib.hid (check_any p W HG.out.ok G.cap G.nodes)
  have HPM := Lib.hid (parseOpM.eq_1 p s.data.toList)
  have HPA := Lib.hid (fun (hz : (diagM p).code = 0) u (hb : Below W.heap.size W u) => oparse_any p s u (HG.out.below hb) (diagM_ok hz) hs (HT.out.base hb))
  clear hw hsz b0 b1 G ht hs
  simp only [diag_val] at HCk
  generalize parseOpM p s.data.toList = R at *
  generalize readM p s.data.toList = R2 at *
  generalize diagM p = d at *
  obtain ⟨dc, dp, di, ds⟩ := d
  simp only at HCk HPM HPA
  have hp3 : ∀ i, W.cell? ⟨w.heap.size, i, none⟩ = (progCells p)[i]? := fun i => HPB.out.cell i
  go_enter Tryz.func12, Tryz.ntmps12
  go_upto_region 1 with fail
  rw [← hW]
  clear hW
  go_wp2_with fail
  refine HCk.out.mono ?_
  rintro e1 w1 ⟨rfl, hb1⟩
  obtain ⟨X, hX⟩ : ∃ X, X = w1.alloc (.cells #[.int .i64 dc, .int .i64 dp, .int .i64 di, .int .i64 ds] 70) := ⟨_, rfl⟩
  have hbX : Below W.heap.size W X := by rw [hX]; exact below_alloc hb1 _
  have HBX := Lib.hid hbX
  have HXB : Hid (Blk X w1.heap.size 70 #[.int .i64 dc, .int .i64 dp, .int .i64 di, .int .i64 ds]) := Lib.hid (by rw [hX]; exact Blk.new _ _ _)
  have HRX := Lib.hid (HRB.out.below hbX HRB.out.lt)
  have HPX := Lib.hid (HPB.out.below hbX HPB.out.lt)
  have HNE : Hid (w.heap.size + 1 < w1.heap.size) := Lib.hid (by have h1 := hb1.size; have h2 := HSz.out; omega)
  clear hp3 HCk hb1 hbX
  go_upto_region 2 with fail
  rw [← hX]
  clear hX
  have hd : X.cell? ⟨w1.heap.size, 0, none⟩ = some (.int .i64 dc) := HXB.out.cell 0
  by_cases hz : dc = 0
  · have HRR := Lib.hid (HPM.out.trans (if_neg (fun h => h hz)))
    have HP := Lib.hid (HPA.out hz X HBX.out)
    subst hz
    clear HPM HPA
    have hp3 : ∀ i, X.cell? ⟨w.heap.size, i, none⟩ = (progCells p)[i]? := fun i => HPX.out.cell i
    go_wp2_with fail
    refine HP.out.mono ?_
    rintro e4 w4 ⟨o, rfl, hob, hL, hb4⟩
    have HB4 := Lib.hid (below_step HBX.out hb4)
    have HR4 := Lib.hid (HRX.out.below hb4 HRX.out.lt)
    have HK4 : Hid (OpLies w4 o (w.heap.size + 2)) := Lib.hid (hL.mono (by have h1 := HBX.out.size; have h2 := HSz.out; omega))
    have HRR2 : Hid (R = (o.bare, R2.2)) := Lib.hid (by rw [HRR.out, hob])
    clear hob hL hb4 HRR HP hp3
    obtain ⟨kd, tb, id, ⟨kl, kA, kc⟩, pr, ea, ⟨el, eA, ec⟩, ca, ⟨cl, cA, cc⟩⟩ := o
    obtain ⟨R2o, z⟩ := R2
    simp only at HRR2 ⊢
    have q0 : w4.cell? ⟨w.heap.size + 1, 0, none⟩ = some (.int .i64 0) := HR4.out.cell 0
    have g0 : w4.frozen? ⟨w.heap.size + 1, 0, none⟩ = false := HR4.out.frozen 0
    have q1 : w4.cell? ⟨w.heap.size + 1, 1, none⟩ = some (.int .i64 0) := HR4.out.cell 1
    have g1 : w4.frozen? ⟨w.heap.size + 1, 1, none⟩ = false := HR4.out.frozen 1
    have q2 : w4.cell? ⟨w.heap.size + 1, 2, none⟩ = some (.int .i64 0) := HR4.out.cell 2
    have g2 : w4.frozen? ⟨w.heap.size + 1, 2, none⟩ = false := HR4.out.frozen 2
    have q3 : w4.cell? ⟨w.heap.size + 1, 3, none⟩ = some (.slice none 0 0) := HR4.out.cell 3
    have g3 : w4.frozen? ⟨w.heap.size + 1, 3, none⟩ = false := HR4.out.frozen 3
    have q4 : w4.cell? ⟨w.heap.size + 1, 4, none⟩ = some (.int .i64 0) := HR4.out.cell 4
    have g4 : w4.frozen? ⟨w.heap.size + 1, 4, none⟩ = false := HR4.out.frozen 4
    have q5 : w4.cell? ⟨w.heap.size + 1, 5, none⟩ = some (.int .i64 0) := HR4.out.cell 5
    have g5 : w4.frozen? ⟨w.heap.size + 1, 5, none⟩ = false := HR4.out.frozen 5
    have q6 : w4.cell? ⟨w.heap.size + 1, 6, none⟩ = some (.slice none 0 0) := HR4.out.cell 6
    have g6 : w4.frozen? ⟨w.heap.size + 1, 6, none⟩ = false := HR4.out.frozen 6
    have q7 : w4.cell? ⟨w.heap.size + 1, 7, none⟩ = some (.int .i64 0) := HR4.out.cell 7
    have g7 : w4.frozen? ⟨w.heap.size + 1, 7, none⟩ = false := HR4.out.frozen 7
    have q8 : w4.cell? ⟨w.heap.size + 1, 8, none⟩ = some (.slice none 0 0) := HR4.out.cell 8
    have g8 : w4.frozen? ⟨w.heap.size + 1, 8, none⟩ = false := HR4.out.frozen 8
    go_wp2
    refine bodyPost_ret (v := .tuple #[.agg (opCells ⟨kd, tb, id, ⟨kl, kA, kc⟩, pr, ea, ⟨el, eA, ec⟩, ca, ⟨cl, cA, cc⟩⟩), .int .i64 z]) ?_ rfl ?_
    · exact results_row_tmp (fn := Tryz.f12) (p := 4) (u := 5) (ty := 39) rfl _ _ (w.heap.size + 1) 39 (opCells ⟨kd, tb, id, ⟨kl, kA, kc⟩, pr, ea, ⟨el, eA, ec⟩, ca, ⟨cl, cA, cc⟩⟩) _ rfl (put9O HR4.out _ _ _ _ _ _ _ _ _) Tryz.underlying39 rfl (by kernel_rfl)
    · exact parse_end (o := ⟨kd, tb, id, ⟨kl, kA, kc⟩, pr, ea, ⟨el, eA, ec⟩, ca, ⟨cl, cA, cc⟩⟩) (by rw [HRR2.out]) (below_step HW.out HB4.out) HK4.out _ _ _ _ _ _ _ _ _
  · have HRR := Lib.hid (HPM.out.trans (if_pos hz))
    have hz' : (dc != 0) = true := bne_iff_ne.2 hz
    clear HPM HPA hz
    have HCR := Lib.hid hd
    go_upto_region 3 with fail
    clear hd
    refine wp_region_held_drew (S := (fun u => u.cell? ⟨w1.heap.size, 0, none⟩ = some (.int .i64 dc))) (by kernel_rfl) (HCR.out) (fun hHeld => ?_)
    refine wpAnyH_take (i := 0) (oi := { dst := some 12, op := Op.build 39 #[], type := 39, pos := "optext.go:220", after := #[], guard := none }) (v := ?a1_v0) rfl (by kernel_rfl) (by kernel_rfl) (by kernel_rfl) (fun _ _ _ h => h) (Or.inl ⟨by rfl, ?a1_y0⟩) (by assumption) ?a1_r0
    case a1_y0 => (intro w hSw; (try dsimp only at hSw); go_simp; try (with_reducible rfl))
    try simp only [Act.put, List.setIfInBounds_toArray, List.set_cons_zero, List.set_cons_succ]
    refine wpAnyH_take (i := 1) (oi := { dst := some 13, op := Op.fieldAddr 70 (Operand.tmp 6) 0, type := 0, pos := "optext.go:220", after := #[{ on := 3, ground := Ground.gcOnly Departure.lateStores }], guard := none }) (v := ?a2_v1) rfl (by kernel_rfl) (by kernel_rfl) (by kernel_rfl) (fun _ _ _ h => h) (Or.inl ⟨by rfl, ?a2_y1⟩) (by assumption) ?a2_r1
    case a2_y1 => (intro w hSw; (try dsimp only at hSw); go_simp; try (with_reducible rfl))
    try simp only [Act.put, List.setIfInBounds_toArray, List.set_cons_zero, List.set_cons_succ]
    refine wpAnyH_take (i := 2) (oi := { dst := some 14, op := Op.load 43 (Operand.tmp 13), type := 43, pos := "optext.go:220", after := #[{ on := 1, ground := Ground.data }, { on := 3, ground := Ground.gcOnly Departure.lateStores }], guard := none }) (v := ?a3_v2) rfl (by kernel_rfl) (by kernel_rfl) (by kernel_rfl) (fun _ _ _ h => h) (Or.inl ⟨by rfl, ?a3_y2⟩) (by assumption) ?a3_r2
    case a3_y2 => (intro w hSw; (try dsimp only at hSw); go_simp; try (with_reducible rfl))
    try simp only [Act.put, List.setIfInBounds_toArray, List.set_cons_zero, List.set_cons_succ]
    refine wpAnyH_ready (rs := [3]) (by kernel_rfl) (by simp) ?_
    refine AllReadyH.cons (o := { dst := none, op := Op.store 39 (Operand.tmp 4) (Operand.tmp 12), type := 0, pos := "optext.go:220", after := #[{ on := 0, ground := Ground.data }, { on := 0, ground := Ground.phase }, { on := 1, ground := Ground.textOnly Departure.lateStores }, { on := 2, ground := Ground.textOnly Departure.lateStores }], guard := none }) rfl (fun K hK => ?_) (AllReadyH.nil)
    have q0 : X.cell? ⟨w.heap.size + 1, 0, none⟩ = some (.int .i64 0) := HRX.out.cell 0
    have g0 : X.frozen? ⟨w.heap.size + 1, 0, none⟩ = false := HRX.out.frozen 0
    have q1 : X.cell? ⟨w.heap.size + 1, 1, none⟩ = some (.int .i64 0) := HRX.out.cell 1
    have g1 : X.frozen? ⟨w.heap.size + 1, 1, none⟩ = false := HRX.out.frozen 1
    have q2 : X.cell? ⟨w.heap.size + 1, 2, none⟩ = some (.int .i64 0) := HRX.out.cell 2
    have g2 : X.frozen? ⟨w.heap.size + 1, 2, none⟩ = false := HRX.out.frozen 2
    have q3 : X.cell? ⟨w.heap.size + 1, 3, none⟩ = some (.slice none 0 0) := HRX.out.cell 3
    have g3 : X.frozen? ⟨w.heap.size + 1, 3, none⟩ = false := HRX.out.frozen 3
    have q4 : X.cell? ⟨w.heap.size + 1, 4, none⟩ = some (.int .i64 0) := HRX.out.cell 4
    have g4 : X.frozen? ⟨w.heap.size + 1, 4, none⟩ = false := HRX.out.frozen 4
    have q5 : X.cell? ⟨w.heap.size + 1, 5, none⟩ = some (.int .i64 0) := HRX.out.cell 5
    have g5 : X.frozen? ⟨w.heap.size + 1, 5, none⟩ = false := HRX.out.frozen 5
    have q6 : X.cell? ⟨w.heap.size + 1, 6, none⟩ = some (.slice none 0 0) := HRX.out.cell 6
    have g6 : X.frozen? ⟨w.heap.size + 1, 6, none⟩ = false := HRX.out.frozen 6
    have q7 : X.cell? ⟨w.heap.size + 1, 7, none⟩ = some (.int .i64 0) := HRX.out.cell 7
    have g7 : X.frozen? ⟨w.heap.size + 1, 7, none⟩ = false := HRX.out.frozen 7
    have q8 : X.cell? ⟨w.heap.size + 1, 8, none⟩ = some (.slice none 0 0) := HRX.out.cell 8
    have g8 : X.frozen? ⟨w.heap.size + 1, 8, none⟩ = false := HRX.out.frozen 8
    have hfar : Blk ((((((((((X.setCell ⟨w.heap.size + 1, 0, none⟩ (.int .i64 0)).setCell ⟨w.heap.size + 1, 1, none⟩ (.int .i64 0)).setCell ⟨w.heap.size + 1, 2, none⟩ (.int .i64 0)).setCell ⟨w.heap.size + 1, 3, none⟩ (.slice none 0 0)).setCell ⟨w.heap.size + 1, 4, none⟩ (.int .i64 0)).setCell ⟨w.heap.size + 1, 5, none⟩ (.int .i64 0)).setCell ⟨w.heap.size + 1, 6, none⟩ (.slice none 0 0)).setCell ⟨w.heap.size + 1, 7, none⟩ (.int .i64 0)).setCell ⟨w.heap.size + 1, 8, none⟩ (.slice none 0 0)).drew) w1.heap.size 70 #[.int .i64 dc, .int .i64 dp, .int .i64 di, .int .i64 ds] := Blk.drew (far9 (k := w.heap.size + 1) HXB.out (by have := HNE.out; omega) (.int .i64 0) (.int .i64 0) (.int .i64 0) (.slice none 0 0) (.int .i64 0) (.int .i64 0) (.slice none 0 0) (.int .i64 0) (.slice none 0 0))
    have hNEW := hfar.cell 0
    clear hfar
    go_simp
    refine hK.out _ _ hNEW (fun hHeld7 => ?_)
    clear hK K hNEW
    refine wpAnyH_take (i := 4) (oi := { dst := some 5, op := Op.assign (Operand.tmp 14), type := 43, pos := "optext.go:220", after := #[{ on := 2, ground := Ground.data }, { on := 3, ground := Ground.chain }, { on := 0, ground := Ground.phase }, { on := 1, ground := Ground.phase }, { on := 2, ground := Ground.phase }, { on := 3, ground := Ground.phase }], guard := none }) (v := ?a4_v4) rfl (by kernel_rfl) (by kernel_rfl) (by kernel_rfl) (fun _ _ _ h => h) (Or.inl ⟨by rfl, ?a4_y4⟩) (by assumption) ?a4_r4
    case a4_y4 => (intro w hSw; (try dsimp only at hSw); go_simp; try (with_reducible rfl))
    try simp only [Act.put, List.setIfInBounds_toArray, List.set_cons_zero, List.set_cons_succ]
    refine wpAnyH_done (by kernel_rfl) ?_ _
    go_wp2
    refine bodyPost_ret (v := .tuple #[.agg (opCells zeroO), .int .i64 dc]) ?_ rfl ?_
    · exact results_row_tmp (fn := Tryz.f12) (p := 4) (u := 5) (ty := 39) rfl _ _ (w.heap.size + 1) 39 (opCells zeroO) _ rfl (put9O HRX.out _ _ _ _ _ _ _ _ _).drew Tryz.underlying39 rfl (by kernel_rfl)
    · exact parse_drew (parse_end (o := zeroO) (by rw [HRR.out]; rfl) (below_step HW.out HBX.out) (zero_lies _ _) _ _ _ _ _ _ _ _ _)
end Go.Proofs.YtofjapcgbajmiaaGreatDoor
namespace Go.Proofs.YtofjapcgbajmiaaGreatDoor
open Go.RowKit
theorem split_lines : ∀ (s : List UInt8), Lib.splitK [10] 0 (Lib.count s [10]) s = linesM s
  | [] => by rw [Lib.count_miss (by simp [Lib.index])]; rfl
  | c :: r => by
    have ih := split_lines r
    by_cases h : c = 10
    · subst h
      have hix : Lib.index (10 :: r) [10] = 0 := by rw [Lib.index]; simp [List.isPrefixOf]
      rw [Lib.count_cons_eq, Nat.add_comm, Lib.splitK, hix, if_neg (by decide), linesM, if_pos rfl, ← ih]
      rfl
    · have hp : ([10] : List UInt8).isPrefixOf (c :: r) = false := by simp [List.isPrefixOf, Ne.symm h]
      have hix : Lib.index (c :: r) [10] = if Lib.index r [10] == -1 then -1 else Lib.index r [10] + 1 := by rw [Lib.index, hp]; simp
      rw [Lib.count_cons_ne c 10 r h, linesM, if_neg h, ← ih]
      rcases hk : Lib.count r [10] with _ | k
      · rfl
      · by_cases hm : Lib.index r [10] = -1
        · rw [Lib.count_miss hm] at hk; cases hk
        · have hge := Lib.index_ge r [10]
          obtain ⟨j, hj⟩ : ∃ j : Nat, Lib.index r [10] = j := ⟨(Lib.index r [10]).toNat, by omega⟩
          have hix' : Lib.index (c :: r) [10] = ((j + 1 : Nat) : Int) := by rw [hix, if_neg (fun e => hm (beq_iff_eq.1 e)), hj]; omega
          have n1 : ¬ (((j + 1 : Nat) : Int) == -1) = true := by rw [beq_iff_eq]; omega
          have n2 : ¬ ((j : Int) == -1) = true := by rw [beq_iff_eq]; omega
          rw [Lib.splitK, Lib.splitK, hix', hj, if_neg n1, if_neg n2]
          simp
theorem drop_all {l : List UInt8} : l.dropWhile (· == 32) = [] ↔ blankM l = true := by
  induction l with
  | nil => simp [blankM]
  | cons c l ih =>
    rw [List.dropWhile_cons]
    by_cases h : c = 32
    · subst h
      simp only [beq_self_eq_true, if_true]
      rw [ih]
      simp [blankM]
    · rw [if_neg (by simpa using h)]
      simp [blankM, h]
theorem trim_blank (l : List UInt8) : Lib.trimB l 32 = [] ↔ blankM l = true := by
  have hb : ∀ m : List UInt8, blankM m = true ↔ ∀ c ∈ m, c = 32 := fun m => by simp [blankM]
  rw [Lib.trimB, Lib.trimLeftB, drop_all, hb, Lib.trimRightB]
  constructor
  · intro h
    have h2 : blankM (l.reverse.dropWhile (· == 32)) = true := (hb _).2 fun c hc => h c (by simpa using hc)
    have h3 : l.reverse.dropWhile (· == 32) = [] := by
      rcases he : l.reverse.dropWhile (· == 32) with _ | ⟨c, r⟩
      · rfl
      · have h4 := List.head_dropWhile_not (p := (· == 32)) (l := l.reverse) (by rw [he]; simp)
        simp only [he, List.head_cons] at h4
        have h5 := (hb _).1 h2 c (by rw [he]; exact List.mem_cons_self ..)
        subst h5
        cases h4
    rw [drop_all, hb] at h3
    rw [hb]
    exact fun c hc => h3 c (by simpa using hc)
  · intro h c hc
    rw [hb] at h
    simp only [List.mem_reverse] at hc
    have := List.dropWhile_subset _ hc
    exact h c (by simpa using this)
end Go.Proofs.YtofjapcgbajmiaaGreatDoor
namespace Go.Proofs.YtofjapcgbajmiaaGreatDoor
open Go.RowKit
theorem KmD.atO {w : World} {x : L KmD} (h : LOk w 2 KmD.cells x) {i : Nat} (hi : i < x.l.length) :
    ∃ g o, x.A = some ⟨g, o, none⟩ ∧ ∀ w', Below w.heap.size w w' → w'.cell? ⟨g, o + i * 2, none⟩ = some (.int .u32 x.l[i].v) ∧ w'.cell? ⟨g, o + i * 2 + 1, none⟩ = some (.int .u32 x.l[i].m) := by
  obtain ⟨g, o, e, _, hc⟩ := h.at hi
  exact ⟨g, o, e, fun w' hb => ⟨below_cell hb (hc 0 (by omega)), below_cell hb (hc 1 (by omega))⟩⟩
set_option maxRecDepth 100000 in
set_option maxHeartbeats 4000000 in
theorem reqCalls_t (a : Int) (l : List Int) (A B : Option Addr) (c d : Nat) (w : World) (h1 : LOk w 1 ucell ⟨l, A, c⟩) (h2 : LOk w 1 ucell ⟨l, B, d⟩) :
    Calls Tryz.prog 33 #[.agg #[.int .i64 a, .slice A l.length c], .agg #[.int .i64 a, .slice B l.length d]] w fun e w' => e = .returned (.bool true) ∧ Below w.heap.size w w' := by
  obtain ⟨W, hW, hw, HB, hp⟩ := box2 w #[.int .i64 a, .slice A l.length c] 35 #[.int .i64 a, .slice B l.length d] 35
  have HW := Lib.hid hw
  have H1 := Lib.hid (h1.below hw (Nat.le_refl _))
  have H2 := Lib.hid (h2.below hw (Nat.le_refl _))
  have hm : l.length ≤ 9223372036854775807 := h1.1
  clear hw h1 h2
  go_enter Tryz.func33, Tryz.ntmps33
  go_upto_region 1 with fail
  rw [← hW]
  clear hW
  have hp3 := (hp W HB).1
  have hp4 := (hp W HB).2
  go_wp2
  have HB0 := Lib.hid HB
  clear hp3 hp4 HB
  go_loopw [5] (fun iv wr => ∃ k : Nat, k ≤ l.length ∧ iv = .int .i64 k ∧ Below W.heap.size W wr) (fun i _ => l.length - (intOf i).toNat)
  case atStart => exact ⟨0, Nat.zero_le _, rfl, HB0.out⟩
  case round =>
    obtain ⟨k, hk, rfl, HB⟩ := hrel
    by_cases hlt : k < l.length
    · obtain ⟨g, of, hA, d0⟩ := ucell_at (H1.out.below HB (Nat.le_refl _)) hlt
      obtain ⟨g2, of2, hA2, d1⟩ := ucell_at (H2.out.below HB (Nat.le_refl _)) hlt
      simp only at hA hA2 d0 d1
      subst hA hA2
      have hp3 := (hp wr HB).1
      have hp4 := (hp wr HB).2
      generalize l[k] = v at *
      have HBE := Lib.hid HB
      clear HB
      go_upto_region 6 with fail
      go_quiet (fail)
      go_wp2
      go_roundw
      case rel => exact ⟨k + 1, by omega, by go_num, below_drewN HBE.out _⟩
      case measure => simp [intOf]; omega
    · have hp3 := (hp wr HB).1
      have hp4 := (hp wr HB).2
      go_wp2
      go_ret
      exact ⟨rfl, below_step HW.out HB⟩
@[reducible] def enC (l : List KmD) (A : Option Addr) (c : Nat) (pr a : Int) (y : List Int) (B : Option Addr) (d : Nat) : Array Value := #[.slice A l.length c, .int .i64 pr, .int .i64 a, .slice B y.length d]
set_option maxRecDepth 100000 in
set_option maxHeartbeats 4000000 in
theorem reqKey_t (l : List KmD) (pr a b : Int) (y z : List Int) (A B A2 B2 : Option Addr) (c d c2 d2 : Nat) (w : World) (h1 : LOk w 2 KmD.cells ⟨l, A, c⟩) (h2 : LOk w 2 KmD.cells ⟨l, B, d⟩) :
    Calls Tryz.prog 71 #[.agg (enC l A c pr a y A2 c2), .agg (enC l B d pr b z B2 d2)] w fun e w' => e = .returned (.bool true) ∧ Below w.heap.size w w' := by
  obtain ⟨W, hW, hw, HB, hp⟩ := box2 w (enC l A c pr a y A2 c2) 37 (enC l B d pr b z B2 d2) 37
  have HW := Lib.hid hw
  have H1 := Lib.hid (h1.below hw (Nat.le_refl _))
  have H2 := Lib.hid (h2.below hw (Nat.le_refl _))
  have hm : l.length ≤ 9223372036854775807 := h1.1
  clear hw h1 h2
  go_enter Tryz.func71, Tryz.ntmps71
  go_upto_region 1 with fail
  rw [← hW]
  clear hW
  have hp3 := (hp W HB).1
  have hp4 := (hp W HB).2
  go_wp2
  have HB0 := Lib.hid HB
  clear hp3 hp4 HB
  go_loopw [5] (fun iv wr => ∃ k : Nat, k ≤ l.length ∧ iv = .int .i64 k ∧ Below W.heap.size W wr) (fun i _ => l.length - (intOf i).toNat)
  case atStart => exact ⟨0, Nat.zero_le _, rfl, HB0.out⟩
  case round =>
    obtain ⟨k, hk, rfl, HB⟩ := hrel
    by_cases hlt : k < l.length
    · obtain ⟨g, of, hA, hd⟩ := KmD.atO (H1.out.below HB (Nat.le_refl _)) hlt
      obtain ⟨g2, of2, hA2, he⟩ := KmD.atO (H2.out.below HB (Nat.le_refl _)) hlt
      obtain ⟨d0, d1⟩ := hd wr (Below.refl _ _)
      obtain ⟨e0, e1⟩ := he wr (Below.refl _ _)
      simp only at hA hA2 d0 d1 e0 e1
      subst hA hA2
      have hp3 := (hp wr HB).1
      have hp4 := (hp wr HB).2
      clear hd he
      generalize l[k] = v at *
      obtain ⟨vv, vm⟩ := v
      simp only at d0 d1 e0 e1
      have HBE := Lib.hid HB
      clear HB
      go_upto_region 6 with fail
      go_quiet (fail)
      go_wp2
      go_roundw
      case rel => exact ⟨k + 1, by omega, by go_num, below_drewN HBE.out _⟩
      case measure => simp [intOf]; omega
    · have hp3 := (hp wr HB).1
      have hp4 := (hp wr HB).2
      go_wp2
      go_ret
      exact ⟨rfl, below_step HW.out HB⟩
set_option maxRecDepth 100000 in
set_option maxHeartbeats 4000000 in
theorem reqEnt_t (l : List KmD) (pr a : Int) (y : List Int) (A B A2 B2 : Option Addr) (c d c2 d2 : Nat) (w : World) (h1 : LOk w 2 KmD.cells ⟨l, A, c⟩) (h2 : LOk w 2 KmD.cells ⟨l, B, d⟩) (h3 : LOk w 1 ucell ⟨y, A2, c2⟩) (h4 : LOk w 1 ucell ⟨y, B2, d2⟩) :
    Calls Tryz.prog 32 #[.agg (enC l A c pr a y A2 c2), .agg (enC l B d pr a y B2 d2)] w fun e w' => e = .returned (.bool true) ∧ Below w.heap.size w w' := by
  obtain ⟨W, hW, hw, HB, hp⟩ := box2 w (enC l A c pr a y A2 c2) 37 (enC l B d pr a y B2 d2) 37
  have HW := Lib.hid hw
  have HK := Lib.hid (fun u (hb : Below W.heap.size W u) => reqKey_t l pr a a y y A B A2 B2 c d c2 d2 u (h1.below (below_step hw hb) (Nat.le_refl _)) (h2.below (below_step hw hb) (Nat.le_refl _)))
  have HC := Lib.hid (fun u (hb : Below W.heap.size W u) => reqCalls_t a y A2 B2 c2 d2 u (h3.below (below_step hw hb) (Nat.le_refl _)) (h4.below (below_step hw hb) (Nat.le_refl _)))
  clear hw h1 h2 h3 h4
  go_enter Tryz.func32, Tryz.ntmps32
  go_upto_region 1 with fail
  rw [← hW]
  clear hW
  have hp3 := (hp W HB).1
  have hp4 := (hp W HB).2
  go_wp2_with fail
  refine (HK.out _ (by first | exact HB | exact below_alloc HB _ | exact below_alloc (below_alloc HB _) _ | exact below_alloc (below_alloc (below_alloc HB _) _) _)).mono ?_
  rintro e w1 ⟨rfl, hbN⟩
  replace HB := below_step (by first | exact HB | exact below_alloc HB _ | exact below_alloc (below_alloc HB _) _ | exact below_alloc (below_alloc (below_alloc HB _) _) _) hbN
  clear hbN
  clear hp3 hp4
  have hp3 := (hp _ HB).1
  have hp4 := (hp _ HB).2
  go_wp2_with fail
  refine (HC.out _ (by first | exact HB | exact below_alloc HB _ | exact below_alloc (below_alloc HB _) _ | exact below_alloc (below_alloc (below_alloc HB _) _) _)).mono ?_
  rintro e w2 ⟨rfl, hbN⟩
  replace HB := below_step (by first | exact HB | exact below_alloc HB _ | exact below_alloc (below_alloc HB _) _ | exact below_alloc (below_alloc (below_alloc HB _) _) _) hbN
  clear hbN
  go_wp2
  go_ret
  exact ⟨rfl, below_step HW.out HB⟩
set_option maxRecDepth 100000 in
set_option maxHeartbeats 8000000 in
theorem reqOp_t (x y : OpD) (w : World) (hx : OpOk w x) (hy : OpOk w y) (h : x.bare = y.bare) :
    Calls Tryz.prog 14 #[.agg (opCells x), .agg (opCells y)] w fun e w' => e = .returned (.bool true) ∧ Below w.heap.size w w' := by
  obtain ⟨kd, tb, id, ⟨ks, kA, kc⟩, pr, ea, ⟨eg, eA, ec⟩, ca, ⟨cg, cA, cc⟩⟩ := x
  obtain ⟨kd', tb', id', ⟨ks', kB, kd2⟩, pr', ea', ⟨eg', eB, ed⟩, ca', ⟨cg', cB, cd⟩⟩ := y
  simp only [OpD.bare, OpP.mk.injEq] at h
  obtain ⟨rfl, rfl, rfl, rfl, rfl, rfl, rfl, rfl, rfl⟩ := h
  obtain ⟨W, hW, hw, HB, hp⟩ := box2 w (opCells ⟨kd, tb, id, ⟨ks, kA, kc⟩, pr, ea, ⟨eg, eA, ec⟩, ca, ⟨cg, cA, cc⟩⟩) 39 (opCells ⟨kd, tb, id, ⟨ks, kB, kd2⟩, pr, ea, ⟨eg, eB, ed⟩, ca, ⟨cg, cB, cd⟩⟩) 39
  have HW := Lib.hid hw
  have HE := Lib.hid (fun u (hb : Below W.heap.size W u) => reqEnt_t ks pr ea eg kA kB eA eB kc kd2 ec ed u (hx.keys.below (below_step hw hb) (Nat.le_refl _)) (hy.keys.below (below_step hw hb) (Nat.le_refl _)) (hx.eargs.below (below_step hw hb) (Nat.le_refl _)) (hy.eargs.below (below_step hw hb) (Nat.le_refl _)))
  have HC := Lib.hid (fun u (hb : Below W.heap.size W u) => reqCalls_t ca cg cA cB cc cd u (hx.cargs.below (below_step hw hb) (Nat.le_refl _)) (hy.cargs.below (below_step hw hb) (Nat.le_refl _)))
  clear hw hx hy
  go_enter Tryz.func14, Tryz.ntmps14
  go_upto_region 1 with fail
  rw [← hW]
  clear hW
  have hp3 := (hp W HB).1
  have hp4 := (hp W HB).2
  go_wp2_with fail
  refine (HE.out _ (by first | exact HB | exact below_alloc HB _ | exact below_alloc (below_alloc HB _) _ | exact below_alloc (below_alloc (below_alloc HB _) _) _)).mono ?_
  rintro e w1 ⟨rfl, hbN⟩
  replace HB := below_step (by first | exact HB | exact below_alloc HB _ | exact below_alloc (below_alloc HB _) _ | exact below_alloc (below_alloc (below_alloc HB _) _) _) hbN
  clear hbN
  clear hp3 hp4
  have hp3 := (hp _ HB).1
  have hp4 := (hp _ HB).2
  go_wp2_with fail
  refine (HC.out _ (by first | exact HB | exact below_alloc HB _ | exact below_alloc (below_alloc HB _) _ | exact below_alloc (below_alloc (below_alloc HB _) _) _)).mono ?_
  rintro e w2 ⟨rfl, hbN⟩
  replace HB := below_step (by first | exact HB | exact below_alloc HB _ | exact below_alloc (below_alloc HB _) _ | exact below_alloc (below_alloc (below_alloc HB _) _) _) hbN
  clear hbN
  go_wp2
  go_ret
  exact ⟨rfl, below_step HW.out HB⟩
def opL (o : OpD) : List Value := [.int .i64 o.kind, .int .i64 o.table, .int .i64 o.id, o.keys.v, .int .i64 o.prio, .int .i64 o.ea, o.eargs.v, .int .i64 o.ca, o.cargs.v]
theorem OpD.at {w : World} {x : L OpD} (h : LOk w 9 opL x) {i : Nat} (hi : i < x.l.length) :
    ∃ g o, x.A = some ⟨g, o, none⟩ ∧ w.cell? ⟨g, o + i * 9, none⟩ = some (.int .i64 x.l[i].kind) ∧ w.cell? ⟨g, o + i * 9 + 1, none⟩ = some (.int .i64 x.l[i].table) ∧ w.cell? ⟨g, o + i * 9 + 2, none⟩ = some (.int .i64 x.l[i].id) ∧ w.cell? ⟨g, o + i * 9 + 3, none⟩ = some (.slice x.l[i].keys.A x.l[i].keys.l.length x.l[i].keys.c) ∧
      w.cell? ⟨g, o + i * 9 + 4, none⟩ = some (.int .i64 x.l[i].prio) ∧ w.cell? ⟨g, o + i * 9 + 5, none⟩ = some (.int .i64 x.l[i].ea) ∧ w.cell? ⟨g, o + i * 9 + 6, none⟩ = some (.slice x.l[i].eargs.A x.l[i].eargs.l.length x.l[i].eargs.c) ∧ w.cell? ⟨g, o + i * 9 + 7, none⟩ = some (.int .i64 x.l[i].ca) ∧ w.cell? ⟨g, o + i * 9 + 8, none⟩ = some (.slice x.l[i].cargs.A x.l[i].cargs.l.length x.l[i].cargs.c) := by
  obtain ⟨g, o, e, _, hc⟩ := h.at hi
  exact ⟨g, o, e, hc 0 (by omega), hc 1 (by omega), hc 2 (by omega), hc 3 (by omega), hc 4 (by omega), hc 5 (by omega), hc 6 (by omega), hc 7 (by omega), hc 8 (by omega)⟩
theorem OpD.atA {w : World} {x : L OpD} (h : LOk w 9 opL x) {i : Nat} (hi : i < x.l.length) :
    ∃ g o, x.A = some ⟨g, o, none⟩ ∧ ∀ w', Below w.heap.size w w' → w'.cell? ⟨g, o + i * 9, none⟩ = some (.int .i64 x.l[i].kind) ∧ w'.cell? ⟨g, o + i * 9 + 1, none⟩ = some (.int .i64 x.l[i].table) ∧ w'.cell? ⟨g, o + i * 9 + 2, none⟩ = some (.int .i64 x.l[i].id) ∧ w'.cell? ⟨g, o + i * 9 + 3, none⟩ = some (.slice x.l[i].keys.A x.l[i].keys.l.length x.l[i].keys.c) ∧
      w'.cell? ⟨g, o + i * 9 + 4, none⟩ = some (.int .i64 x.l[i].prio) ∧ w'.cell? ⟨g, o + i * 9 + 5, none⟩ = some (.int .i64 x.l[i].ea) ∧ w'.cell? ⟨g, o + i * 9 + 6, none⟩ = some (.slice x.l[i].eargs.A x.l[i].eargs.l.length x.l[i].eargs.c) ∧ w'.cell? ⟨g, o + i * 9 + 7, none⟩ = some (.int .i64 x.l[i].ca) ∧ w'.cell? ⟨g, o + i * 9 + 8, none⟩ = some (.slice x.l[i].cargs.A x.l[i].cargs.l.length x.l[i].cargs.c) := by
  obtain ⟨g, o, e, d0, d1, d2, d3, d4, d5, d6, d7, d8⟩ := OpD.at h hi
  exact ⟨g, o, e, fun w' hb => ⟨below_cell hb d0, below_cell hb d1, below_cell hb d2, below_cell hb d3, below_cell hb d4, below_cell hb d5, below_cell hb d6, below_cell hb d7, below_cell hb d8⟩⟩
set_option maxRecDepth 100000 in
set_option maxHeartbeats 8000000 in
theorem reqOps_t (x y : L OpD) (w : World) (hx : LOk w 9 opL x) (hy : LOk w 9 opL y) (hxo : ∀ o ∈ x.l, OpOk w o) (hyo : ∀ o ∈ y.l, OpOk w o) (h : x.l.map OpD.bare = y.l.map OpD.bare) :
    Calls Tryz.prog 17 #[.slice x.A x.l.length x.c, .slice y.A y.l.length y.c] w fun e w' => e = .returned (.bool true) ∧ Below w.heap.size w w' := by
  obtain ⟨xl, xA, xc⟩ := x
  obtain ⟨yl, yA, yc⟩ := y
  simp only at hx hy hxo hyo h ⊢
  have hlen : xl.length = yl.length := by have := congrArg List.length h; simpa using this
  have HX := Lib.hid hx
  have HY := Lib.hid hy
  have HXO := Lib.hid hxo
  have HYO := Lib.hid hyo
  have HH := Lib.hid (fun (k : Nat) (h1 : k < xl.length) (h2 : k < yl.length) => show xl[k].bare = yl[k].bare from by
    have e : (xl.map OpD.bare)[k]? = (yl.map OpD.bare)[k]? := by rw [h]
    rw [List.getElem?_map, List.getElem?_map, List.getElem?_eq_getElem h1, List.getElem?_eq_getElem h2] at e
    simpa using e)
  have hm : xl.length ≤ 9223372036854775807 := hx.1
  have hlenZ : (yl.length : Int) = (xl.length : Int) := by omega
  have HL := Lib.hid hlen
  clear hx hy hxo hyo h hlen
  go_enter Tryz.func17, Tryz.ntmps17
  go_wp2
  go_loopw [5] (fun iv wr => ∃ k : Nat, k ≤ xl.length ∧ iv = .int .i64 k ∧ Below w.heap.size w wr) (fun i _ => xl.length - (intOf i).toNat)
  case atStart => exact ⟨0, Nat.zero_le _, rfl, Below.refl _ _⟩
  case round =>
    obtain ⟨k, hk, rfl, HB⟩ := hrel
    by_cases hlt : k < xl.length
    · have hlt2 : k < yl.length := by have := HL.out; omega
      obtain ⟨g, of, hA, hd⟩ := OpD.atA (HX.out.below HB (Nat.le_refl _)) hlt
      obtain ⟨g2, of2, hA2, he⟩ := OpD.atA (HY.out.below HB (Nat.le_refl _)) hlt2
      simp only at hA hA2
      subst hA hA2
      have HC := Lib.hid (fun u (hb : Below wr.heap.size wr u) => reqOp_t xl[k] yl[k] u ((HXO.out _ (List.getElem_mem hlt)).below (below_step HB hb)) ((HYO.out _ (List.getElem_mem hlt2)).below (below_step HB hb)) (HH.out k hlt hlt2))
      generalize xl[k] = a at *
      generalize yl[k] = b at *
      have hlz : (k : Int) < (yl.length : Int) := by omega
      have HBE := Lib.hid HB
      have H0 := Lib.hid (Below.refl wr.heap.size wr)
      clear HB
      go_upto_region 6 with fail
      go_region_held3 (fun w' => Below wr.heap.size wr w') (first | exact H0.out | exact below_drew H0.out | (exact below_step (by assumption) (by assumption)) | assumption)
        (first | (go_at_call 14; refine (HC.out _ (by assumption)).mono ?_; rintro e w1 ⟨rfl, hb1⟩))
      have HB1 : Hid (Below wr.heap.size wr _) := Lib.hid (by assumption)
      go_wp2
      go_roundw
      case rel => exact ⟨k + 1, by omega, by go_num, below_step HBE.out HB1.out⟩
      case measure => simp [intOf]; omega
    · go_wp2
      go_ret
      exact ⟨rfl, HB⟩
end Go.Proofs.YtofjapcgbajmiaaGreatDoor
namespace Go.Proofs.YtofjapcgbajmiaaGreatDoor
open Go.RowKit
theorem lines_le : ∀ (s l : List UInt8), l ∈ linesM s → l.length ≤ s.length
  | [], l, h => by
    rw [linesM, List.mem_singleton] at h
    subst h; exact Nat.le_refl _
  | c :: r, l, h => by
    rw [linesM] at h
    split at h
    · rcases List.mem_cons.1 h with h | h
      · subst h; exact Nat.zero_le _
      · exact Nat.le_succ_of_le (lines_le r l h)
    · split at h
      · rw [List.mem_singleton] at h
        subst h; simp
      · rename_i m q hq
        rcases List.mem_cons.1 h with h | h
        · subst h
          have := lines_le r m (by rw [hq]; exact List.mem_cons_self ..)
          simp only [List.length_cons]; omega
        · exact Nat.le_succ_of_le (lines_le r l (by rw [hq]; exact List.mem_cons_of_mem _ h))
theorem lines_len : ∀ (s : List UInt8), (linesM s).length ≤ s.length + 1
  | [] => by simp [linesM]
  | c :: r => by
    have h := lines_len r
    rw [linesM]
    split
    · simp only [List.length_cons]; omega
    · split
      · simp
      · rename_i m q hq
        rw [hq] at h
        simp only [List.length_cons] at h ⊢; omega
def strL (b : ByteArray) : List Value := [.string b]
theorem strL_at {w : World} {x : L ByteArray} (h : LOk w 1 strL x) {i : Nat} (hi : i < x.l.length) : ∃ g o, x.A = some ⟨g, o, none⟩ ∧ w.cell? ⟨g, o + i, none⟩ = some (.string x.l[i]) := by
  obtain ⟨g, o, e, _, hc⟩ := h.at hi
  exact ⟨g, o, e, by have := hc 0 (by omega); rw [Nat.mul_one] at this; exact this⟩
def MaxI (w : World) : Prop := 0 < w.heap.size ∧ ∃ m : Int, w.cell? ⟨0, 0, none⟩ = some (.int .i64 m)
theorem MaxI.below {w w' : World} (h : MaxI w) {B : Nat} (hb : Below B w w') (hB : w.heap.size ≤ B) : MaxI w' := by
  obtain ⟨h0, m, hm⟩ := h
  exact ⟨Nat.lt_of_lt_of_le h0 hb.size, m, (hb.cell (p := ⟨0, 0, none⟩) (Nat.lt_of_lt_of_le h0 hB)).trans hm⟩
theorem split_any (s : ByteArray) (hs : s.size ≤ 16384) (w : World) (hm : MaxI w) :
    Calls Tryz.prog 34 #[.string s, .string ⟨#[10]⟩] w fun e w' => ∃ (ls : List ByteArray) (A : Option Addr), e = .returned (.slice A ls.length ls.length) ∧ ls.map (fun b => b.data.toList) = linesM s.data.toList ∧
      LOk w' 1 strL ⟨ls, A, ls.length⟩ ∧ Below w.heap.size w w' := by
  obtain ⟨_, m, hm⟩ := hm
  refine (Tryz.strings_Split s ⟨#[10]⟩ m w (by omega) hm (by decide)).mono ?_
  rintro e w' ⟨rfl, rfl⟩
  have hl := Lib.splitB_all ⟨#[10]⟩ (by decide) 0 _ s rfl
  have hd : (Lib.splitB ⟨#[10]⟩ 0 (Lib.countB s ⟨#[10]⟩) s).map (fun b => b.data.toList) = linesM s.data.toList := (Lib.splitB_data _ _ _ _).trans (split_lines s.data.toList)
  have hle : (Lib.splitB ⟨#[10]⟩ 0 (Lib.countB s ⟨#[10]⟩) s).length ≤ 16385 := by
    have h1 := lines_len s.data.toList
    rw [← hd, List.length_map] at h1
    have h2 : s.data.toList.length = s.size := rfl
    omega
  rw [← hl]
  generalize Lib.splitB ⟨#[10]⟩ 0 (Lib.countB s ⟨#[10]⟩) s = ls at *
  refine ⟨ls, _, rfl, hd, ⟨by unfold maxLen; simp only; omega, .inr ⟨w.heap.size, 0, rfl, by simp, fun i hi j hj => ?_⟩⟩, below1 _ _⟩
  obtain rfl : j = 0 := by omega
  have hb := Blk.new w 9 (ls.map Value.string).toArray
  have hc := hb.cell i
  have hi' : i < ls.length := hi
  rw [Nat.zero_add, Nat.mul_one, Nat.add_zero, hc]
  simp [strL, hi']
theorem trim_any (b : ByteArray) (hb : b.size ≤ 16384) (w : World) : Calls Tryz.prog 35 #[.string b, .string ⟨#[32]⟩] w fun e w' => e = .returned (.string ⟨(Lib.trimB b.data.toList 32).toArray⟩) ∧ Below w.heap.size w w' := by
  refine (Tryz.strings_Trim_one b 32 (by decide) w (by omega)).mono ?_
  rintro e w' ⟨rfl, h⟩
  refine ⟨rfl, ?_⟩
  rcases h with rfl | rfl
  · exact Below.refl _ _
  · exact below_drew (Below.refl _ _)
theorem clip_any (n : Nat) (A : Option Addr) (c : Nat) (hn : n ≤ c) (hc : c ≤ 9223372036854775807) (h0 : A = none → n = 0 ∧ c = 0) (w : World) : Calls Tryz.prog 36 #[.slice A n c] w fun e w' => e = .returned (.slice A n n) ∧ w' = w := by
  cases A with
  | none =>
    obtain ⟨rfl, rfl⟩ := h0 rfl
    go_enter Tryz.func36, Tryz.ntmps36
    go_wp2
    go_ret
    exact ⟨rfl, rfl⟩
  | some ad =>
    have h1 : n ≤ 9223372036854775807 := by omega
    go_enter Tryz.func36, Tryz.ntmps36
    go_wp2
    go_ret
    exact ⟨rfl, rfl⟩
def Off (w : World) {α : Type} (x : L α) (b : Option Nat) : Prop := x.l = [] ∨ ∃ ad, x.A = some ad ∧ ad.block < w.heap.size ∧ b ≠ some ad.block
theorem Off.grow {w w' : World} {α : Type} {x : L α} {b b' : Option Nat} (h : Off w x b) (hs : w.heap.size ≤ w'.heap.size) (hb : b' = b ∨ ∃ k, b' = some k ∧ w.heap.size ≤ k) : Off w' x b' := by
  rcases h with h | ⟨ad, e, hl, hn⟩
  · exact .inl h
  · refine .inr ⟨ad, e, Nat.lt_of_lt_of_le hl hs, ?_⟩
    rcases hb with rfl | ⟨k, rfl, hk⟩
    · exact hn
    · intro q
      cases q
      omega
theorem LOk.off {w : World} {k B : Nat} {α : Type} {cells : α → List Value} {x : L α} {b : Option Nat} (h : LOk w k cells x) (ha : Abv B x.A) (hb : ∀ g, b = some g → g < B) : Off w x b := by
  rcases h.2 with h0 | ⟨g, o, e, hl, _⟩
  · exact .inl h0
  · refine .inr ⟨_, e, hl, fun q => ?_⟩
    have h1 := hb _ q
    have h2 := ha _ e
    simp only at h1 h2
    omega
theorem LOk.grownO {w w' : World} {k : Nat} {row : Option Nat} {α : Type} {cells : α → List Value} {x : L α} (h : LOk w k cells x) (hg : w.grownBy w' row) (hoff : Off w x row) : LOk w' k cells x := by
  refine ⟨h.1, ?_⟩
  rcases h.2 with h0 | ⟨g, o, e, hl, hc⟩
  · exact .inl h0
  · rcases hoff with h0 | ⟨ad, e2, _, hn⟩
    · exact .inl h0
    · have e3 : (⟨g, o, none⟩ : Addr) = ad := by rw [e] at e2; exact Option.some.inj e2
      subst e3
      refine .inr ⟨g, o, e, Nat.lt_of_lt_of_le hl hg.size, fun i hi j hj => ?_⟩
      rw [World.cell?_of_block (hg.block g hl (fun q => hn q.symm))]
      exact hc i hi j hj
structure OpOff (w : World) (o : OpD) (b : Option Nat) : Prop where
  k : Off w o.keys b
  e : Off w o.eargs b
  c : Off w o.cargs b
theorem OpOff.grow {w w' : World} {o : OpD} {b b' : Option Nat} (h : OpOff w o b) (hs : w.heap.size ≤ w'.heap.size) (hb : b' = b ∨ ∃ k, b' = some k ∧ w.heap.size ≤ k) : OpOff w' o b' := ⟨h.k.grow hs hb, h.e.grow hs hb, h.c.grow hs hb⟩
theorem OpOk.grownO {w w' : World} {row : Option Nat} {o : OpD} (h : OpOk w o) (hg : w.grownBy w' row) (hoff : OpOff w o row) : OpOk w' o :=
  ⟨h.keys.grownO hg hoff.k, h.eargs.grownO hg hoff.e, h.cargs.grownO hg hoff.c⟩
def AccOk (w : World) (b : Option Nat) (acc : List OpD) : Prop := ∀ o ∈ acc, OpOk w o ∧ OpOff w o b
theorem AccOk.below {w w' : World} {b : Option Nat} {acc : List OpD} (h : AccOk w b acc) (hb : Below w.heap.size w w') : AccOk w' b acc := fun o ho => ⟨(h o ho).1.below hb, (h o ho).2.grow hb.size (.inl rfl)⟩
theorem acc_step {wr w1 w2 : World} {B : Nat} {t : TypeId} {k n : Nat} {v v' : Value} {xs : List Value} {acc : List OpD} {o : OpD} (hown : wr.ownsRow B t k v n xs) (ha : AccOk wr v.ownBlock acc) (hb : Below wr.heap.size wr w1)
    (hg : w1.grownBy w2 v.ownBlock) (hat : v'.ownBlock = v.ownBlock ∨ v'.ownBlock = some w1.heap.size) (ho : OpLies w1 o wr.heap.size) : AccOk w2 v'.ownBlock (acc ++ [o]) := by
  have hat' : v'.ownBlock = v.ownBlock ∨ ∃ k, v'.ownBlock = some k ∧ w1.heap.size ≤ k := by
    rcases hat with h | h
    · exact .inl h
    · exact .inr ⟨_, h, Nat.le_refl _⟩
  have hl := fun g h => (own_ltO hown g h).2
  intro x hx
  rcases List.mem_append.1 hx with hx | hx
  · have h1 := (ha.below hb) x hx
    exact ⟨h1.1.grownO hg h1.2, h1.2.grow hg.size hat'⟩
  · rw [List.mem_singleton] at hx
    subst hx
    have h2 : OpOff w1 x v.ownBlock := ⟨ho.ok.keys.off ho.k hl, ho.ok.eargs.off ho.e hl, ho.ok.cargs.off ho.c hl⟩
    exact ⟨ho.ok.grownO hg h2, h2.grow hg.size hat'⟩
theorem script_step (p : ProgD) (ls : List ByteArray) (i : Nat) (hi : i < ls.length) (out : List OpP) :
    scriptG p ((ls.drop i).map fun b => b.data.toList) i out = if blankM ls[i].data.toList = true then scriptG p ((ls.drop (i + 1)).map fun b => b.data.toList) (i + 1) out
      else if (readM p ls[i].data.toList).2 ≠ 0 then ([], i + 1, (readM p ls[i].data.toList).2) else scriptG p ((ls.drop (i + 1)).map fun b => b.data.toList) (i + 1) (out ++ [(readM p ls[i].data.toList).1]) := by
  rw [List.drop_eq_getElem_cons hi, List.map_cons, scriptG]
theorem script_end (p : ProgD) (ls : List ByteArray) (out : List OpP) : scriptG p ((ls.drop ls.length).map fun b => b.data.toList) ls.length out = (out, 0, 0) := by
  rw [List.drop_length]; rfl
def ScriptEnd (w : World) (R : List OpP × Nat × Int) (e : Ending) (w' : World) : Prop := ∃ l : L OpD, e = .returned (.tuple #[.slice l.A l.l.length l.c, .int .i64 R.2.1, .int .i64 R.2.2]) ∧ l.l.map OpD.bare = R.1 ∧
  LOk w' 9 opL l ∧ (∀ o ∈ l.l, OpOk w' o) ∧ l.c = l.l.length ∧ Below w.heap.size w w'
theorem script_bad {w w' : World} {R : List OpP × Nat × Int} {n : Int} {m : Nat} {e : Int} (hR : R = ([], m, e)) (hn : n = m) (hb : Below w.heap.size w w') : ScriptEnd w R (.returned (.tuple #[.slice none 0 0, .int .i64 n, .int .i64 e])) w' := by
  subst hR hn
  exact ⟨⟨[], none, 0⟩, rfl, rfl, nilLO _ _ _, (fun o ho => by cases ho), rfl, hb⟩
theorem script_good {w w' : World} {R : List OpP × Nat × Int} {acc : List OpD} {A : Option Addr} {c B : Nat} (hR : R = (acc.map OpD.bare, 0, 0)) (hown : w'.ownsRow B 39 9 (.slice A acc.length c) acc.length (acc.flatMap opL))
    {b : Option Nat} (ha : AccOk w' b acc) (hb : Below w.heap.size w w') : ScriptEnd w R (.returned (.tuple #[.slice A acc.length acc.length, .int .i64 0, .int .i64 0])) w' := by
  subst hR
  obtain ⟨A', c', e3, _, h2, _, h4⟩ := own_list (cells := opL) (fun _ => rfl) hown
  rw [Value.slice.injEq] at e3
  obtain ⟨rfl, _, rfl⟩ := e3
  exact ⟨⟨acc, A, acc.length⟩, rfl, rfl, ⟨h2.1, h2.2⟩, fun o ho => (ha o ho).1, rfl, hb⟩
theorem own_caps {w : World} {B : Nat} {t : TypeId} {k n c : Nat} {A : Option Addr} {xs : List Value} (h : w.ownsRow B t k (.slice A n c) n xs) : n ≤ c ∧ c ≤ 9223372036854775807 ∧ (A = none → n = 0 ∧ c = 0) := by
  rcases h.2 with ⟨hv, h0⟩ | ⟨g, cap, cur, hv, hb, hg, hle, hcm, hcs, htk⟩
  · rw [Value.slice.injEq] at hv
    obtain ⟨rfl, rfl, rfl⟩ := hv
    exact ⟨Nat.le_refl _, by omega, fun _ => ⟨rfl, rfl⟩⟩
  · rw [Value.slice.injEq] at hv
    obtain ⟨rfl, _, rfl⟩ := hv
    exact ⟨hle, by unfold maxLen at hcm; omega, fun q => by cases q⟩
end Go.Proofs.YtofjapcgbajmiaaGreatDoor
namespace Go.Proofs.YtofjapcgbajmiaaGreatDoor
open Go.RowKit
theorem new_cellsO (w : World) (cs : List Value) (t : TypeId) : ∀ j v, cs[j]? = some v → (w.alloc (.cells cs.toArray t)).cell? ((⟨w.heap.size, 0, none⟩ : Addr).add j) = some v := by
  intro j v hj
  have hb := Blk.new w t cs.toArray
  have hc := hb.cell j
  rw [Addr.add_lit, Nat.zero_add, hc]
  simpa using hj
set_option maxRecDepth 100000 in
set_option maxHeartbeats 3000000 in
theorem oscript_any (p : ProgD) (s : ByteArray) (w : World) (G : ProgG w p) (ht : Tab w) (hm : MaxI w) :
    Calls Tryz.prog 15 #[.agg (progCells p), .string s] w (ScriptEnd w (scriptM p s.data.toList)) := by
  obtain ⟨W, hW, hw, hsz, b0⟩ : ∃ W, W = w.alloc (.cells (progCells p) 31) ∧ Below w.heap.size w W ∧ W.heap.size = w.heap.size + 1 ∧ Blk W w.heap.size 31 (progCells p) := ⟨_, rfl, below1 _ _, by simp, Blk.new _ _ _⟩
  have HW := Lib.hid hw
  have HSz := Lib.hid hsz
  have HPB := Lib.hid b0
  have HG := Lib.hid (G.below hw)
  have HT := Lib.hid (ht.base hw)
  have HM := Lib.hid (hm.below hw (Nat.le_refl _))
  have HCk := Lib.hid (check_any p W HG.out.ok G.cap G.nodes)
  have HSM := Lib.hid (scriptM.eq_1 p s.data.toList)
  have HLS : Hid (s.data.toList.length = s.size) := Lib.hid rfl
  have HDZ := Lib.hid (fun (hz : (diagM p).code = 0) => diagM_ok hz)
  clear hw hsz b0 G ht hm
  simp only [diag_val] at HCk
  generalize scriptM p s.data.toList = R at *
  generalize diagM p = d at *
  obtain ⟨dc, dp, di, ds⟩ := d
  simp only at HCk HSM HDZ
  have hp3 : ∀ i, W.cell? ⟨w.heap.size, i, none⟩ = (progCells p)[i]? := fun i => HPB.out.cell i
  by_cases hlong : 16384 < s.size
  · have HRR := Lib.hid (HSM.out.trans (if_pos (by rw [HLS.out]; exact hlong)))
    clear HSM HDZ HCk hp3
    go_enter Tryz.func15, Tryz.ntmps15
    go_upto_region 1 with fail
    rw [← hW]
    clear hW
    go_wp2
    go_ret3
    exact script_bad HRR.out rfl HW.out
  have HRS := Lib.hid (HSM.out.trans (if_neg (by rw [HLS.out]; exact hlong)))
  clear HSM
  go_enter Tryz.func15, Tryz.ntmps15
  go_upto_region 1 with fail
  rw [← hW]
  clear hW
  go_wp2_with fail
  refine HCk.out.mono ?_
  rintro e1 w1 ⟨rfl, hb1⟩
  obtain ⟨X, hX⟩ : ∃ X, X = w1.alloc (.cells #[.int .i64 dc, .int .i64 dp, .int .i64 di, .int .i64 ds] 70) := ⟨_, rfl⟩
  have hbX : Below W.heap.size W X := by rw [hX]; exact below_alloc hb1 _
  have HBX := Lib.hid hbX
  have HXB : Hid (Blk X w1.heap.size 70 #[.int .i64 dc, .int .i64 dp, .int .i64 di, .int .i64 ds]) := Lib.hid (by rw [hX]; exact Blk.new _ _ _)
  have HPX := Lib.hid (HPB.out.below hbX HPB.out.lt)
  have HMX := Lib.hid (HM.out.below hbX (Nat.le_refl _))
  clear hp3 HCk hb1 hbX
  go_upto_region 4 with fail
  rw [← hX]
  clear hX
  have hd : X.cell? ⟨w1.heap.size, 0, none⟩ = some (.int .i64 dc) := HXB.out.cell 0
  by_cases hz : dc = 0
  case neg =>
    have HRR := Lib.hid (HRS.out.trans (if_pos hz))
    have hz' : (dc != 0) = true := bne_iff_ne.2 hz
    clear HRS HDZ hz
    go_upto_region 5 with fail
    go_quiet (fail)
    go_wp2
    go_ret3
    exact script_bad HRR.out rfl (below_drewN (below_step HW.out HBX.out) _)
  have HR0 := Lib.hid (HRS.out.trans (if_neg (fun h => h hz)))
  have HD := Lib.hid (HDZ.out hz)
  subst hz
  clear HRS HDZ
  have hshort : s.size ≤ 16384 := by omega
  go_wp2_with fail
  refine (split_any s hshort X HMX.out).mono ?_
  rintro e2 Z ⟨ls, A0, rfl, hmap, hL, hbZ⟩
  have HBZ := Lib.hid (below_step HBX.out hbZ)
  have HPZ := Lib.hid (HPX.out.below hbZ HPX.out.lt)
  have HLZ := Lib.hid hL
  have HN : Hid (ls.length ≤ 16385) := Lib.hid (by
    have h1 := lines_len s.data.toList
    rw [← hmap, List.length_map, HLS.out] at h1
    omega)
  have HSZ : Hid (∀ b ∈ ls, b.size ≤ 16384) := Lib.hid (fun b hb => by
    have h1 := lines_le s.data.toList b.data.toList (by rw [← hmap]; exact List.mem_map.2 ⟨b, hb, rfl⟩)
    rw [HLS.out] at h1
    exact Nat.le_trans h1 hshort)
  have HR : Hid (scriptG p ((ls.drop 0).map fun b => b.data.toList) 0 [] = R) := Lib.hid (by rw [HR0.out, ← hmap]; rfl)
  have HPA := Lib.hid (fun (b : ByteArray) (hb : b.size ≤ 16384) u (hu : Below W.heap.size W u) => oparse_any p b u (HG.out.below hu) HD.out (Nat.le_trans hb (by unfold maxLen; decide)) (HT.out.base hu))
  have HTr := Lib.hid (fun (b : ByteArray) (hb : b.size ≤ 16384) u => trim_any b hb u)
  have HTB := Lib.hid trim_blank
  clear hmap hL hbZ HR0 hd HXB HPX HPB HMX HBX
  obtain ⟨i0, hi, hz0, hz1, hz2⟩ := info_parts (show (Tryz.prog.info? 39).map (fun i => (i.zero, i.size, i.bytes)) = some (some (.agg #[.int .i64 0, .int .i64 0, .int .i64 0, .slice none 0 0, .int .i64 0, .int .i64 0, .slice none 0 0, .int .i64 0, .slice none 0 0]), 9, 120) by kernel_rfl)
  have hnl : ls.length ≤ 16385 := HN.out
  go_wp2
  go_loopw [4, 8, 9, 10, 11, 25] (fun lv _ _ _ _ iv wr => ∃ (i : Nat) (acc : List OpD) (A : Option Addr) (c : Nat), i ≤ ls.length ∧ iv = .int .i64 i ∧ lv = .slice A acc.length c ∧ acc.length ≤ i ∧ Hid (Below Z.heap.size Z wr) ∧
      Hid (wr.ownsRow Z.heap.size 39 9 (.slice A acc.length c) acc.length (acc.flatMap opL)) ∧ Hid (AccOk wr (Value.slice A acc.length c).ownBlock acc) ∧ Hid (scriptG p ((ls.drop i).map fun b => b.data.toList) i (acc.map OpD.bare) = R))
    (fun _ _ _ _ _ i _ => ls.length - (intOf i).toNat)
  case atStart => exact ⟨0, [], none, 0, Nat.zero_le _, rfl, rfl, Nat.le_refl _, Lib.hid (Below.refl _ _), Lib.hid (World.ownsRow_nil _ _ _ _), Lib.hid (fun o ho => by cases ho), HR⟩
  case round =>
    obtain ⟨i, acc, A, c, hile, rfl, rfl, hacc, HBr, HO, HA, HS⟩ := hrel
    by_cases hlt : i < ls.length
    · obtain ⟨g, of, rfl, d0⟩ := strL_at (HLZ.out.below HBr.out (Nat.le_refl _)) hlt
      simp only at d0
      have HST := Lib.hid (script_step p ls i hlt (acc.map OpD.bare))
      have HSb : Hid (ls[i].size ≤ 16384) := Lib.hid (HSZ.out _ (List.getElem_mem hlt))
      have HWr := Lib.hid (below_step HBZ.out HBr.out)
      generalize ls[i] = b at *
      have HTq := Lib.hid (HTB.out b.data.toList)
      go_wp2_with fail
      refine (HTr.out b HSb.out wr).mono ?_
      rintro e3 w3 ⟨rfl, hb3⟩
      have HB3 := Lib.hid hb3
      have HB3W := Lib.hid (below_step HWr.out hb3)
      have HP3 := Lib.hid ((HPZ.out.below HBr.out HPZ.out.lt).below hb3 (Nat.lt_of_lt_of_le HPZ.out.lt HBr.out.size))
      have HO3 := Lib.hid (ownsRow_below HO.out hb3)
      have HA3 := Lib.hid (HA.out.below hb3)
      have HZ3 := Lib.hid (HBr.out.trans (hb3.mono HBr.out.size))
      clear hb3 d0 HO HA
      generalize Lib.trimB b.data.toList 32 = tb at *
      cases hbl : blankM b.data.toList with
      | true =>
        have HS2 := Lib.hid (HST.out.symm.trans HS.out)
        rw [hbl, if_pos rfl] at HS2
        have htb : tb = [] := HTq.out.2 hbl
        subst htb
        clear HTq HST HS hbl
        go_wp2
        go_roundw
        case rel => exact ⟨i + 1, acc, A, c, by omega, by go_num, rfl, by omega, HZ3, HO3, HA3, HS2⟩
        case measure => simp [intOf]; omega
      | false =>
        have htb : tb ≠ [] := fun h => by have := HTq.out.1 h; rw [hbl] at this; cases this
        obtain ⟨c0, r0, rfl⟩ : ∃ c0 r0, tb = c0 :: r0 := by
          cases tb with
          | nil => exact absurd rfl htb
          | cons a l => exact ⟨a, l, rfl⟩
        have HS2 := Lib.hid (HST.out.symm.trans HS.out)
        rw [hbl, if_neg (by decide)] at HS2
        clear HTq HST HS hbl htb
        have hp3 : ∀ i, w3.cell? ⟨w.heap.size, i, none⟩ = (progCells p)[i]? := fun i => HP3.out.cell i
        have HP := Lib.hid (HPA.out b HSb.out w3 HB3W.out)
        generalize readM p b.data.toList = R2 at *
        obtain ⟨R2o, z⟩ := R2
        simp only at HS2
        go_wp2_with fail
        refine HP.out.mono ?_
        rintro e4 w4 ⟨o, rfl, hob, hL, hb4⟩
        obtain ⟨X4, hX4⟩ : ∃ X4, X4 = w4.alloc (.cells (opCells o) 39) := ⟨_, rfl⟩
        have hbx : Below w3.heap.size w3 X4 := by rw [hX4]; exact below_alloc hb4 _
        have HB4 := Lib.hid hbx
        have HOB : Hid (o.bare = R2o) := Lib.hid hob
        have HXO : Hid (Blk X4 w4.heap.size 39 (opCells o)) := Lib.hid (by rw [hX4]; exact Blk.new _ _ _)
        have HL4 : Hid (OpLies X4 o w3.heap.size) := Lib.hid (by rw [hX4]; exact hL.below (below1 _ _))
        clear hob hL hb4 HP hp3 hbx
        simp only
        go_upto_region 11 with fail
        rw [← hX4]
        clear hX4
        by_cases hz : z = 0
        · have HS3 : Hid (scriptG p ((ls.drop (i + 1)).map fun b => b.data.toList) (i + 1) ((acc ++ [o]).map OpD.bare) = R) := Lib.hid (by rw [← HS2.out, if_neg (fun h => h hz), List.map_append, List.map_singleton, HOB.out])
          subst hz
          clear HS2
          have HO4 := ownsRow_below HO3.out HB4.out
          have hsz4 : Z.heap.size ≤ X4.heap.size := Nat.le_trans HZ3.out.size HB4.out.size
          have ho3 : ∀ i, X4.cell? ⟨w4.heap.size, i, none⟩ = (opCells o)[i]? := fun i => HXO.out.cell i
          go_wp2_with (first
            | (at_builtin; refine wpList_append_own_at _ rfl _ _ 51 rfl Z.heap.size 39 i0 _ 9 120 Tryz.underlying51 hi hz0 hz1 hz2 rfl (by decide) _ _ _ rfl (HO4.alloc _) ⟨X4.heap.size, 0, none⟩ 1 1 (opL o) rfl rfl ?c1 ?c2 ?c3 ?c4 ?c5 ?_)
            | fail)
          case c1 => exact new_cellsO _ _ _
          case c2 => intro u hu; simp only [opL, List.mem_cons, List.not_mem_nil, or_false] at hu; rcases hu with rfl | rfl | rfl | rfl | rfl | rfl | rfl | rfl | rfl <;> rfl
          case c3 => unfold maxLen; omega
          case c4 => omega
          case c5 => simp; omega
          intro v' w5 hown5 hgrow _ hat
          have HA5 := Lib.hid (acc_step HO3.out HA3.out (HB4.out.trans ((below1 X4 _).mono HB4.out.size)) hgrow (by simpa using hat) (HL4.out.below (below1 _ _)))
          have HZ5 : Hid (Below Z.heap.size Z w5) := Lib.hid (((HZ3.out.trans (HB4.out.mono HZ3.out.size)).trans ((below1 X4 _).mono hsz4)).trans (grown_below (HO4.alloc _) hgrow (by simp; omega)))
          obtain ⟨A', c', rfl⟩ : ∃ A' c', v' = .slice A' (acc.length + 1) c' := by
            rcases hown5.2 with ⟨hv, h0⟩ | ⟨g', cap, cur, hv, _, _, _⟩
            · omega
            · exact ⟨_, _, hv⟩
          have HO5 : Hid (w5.ownsRow Z.heap.size 39 9 (.slice A' (acc ++ [o]).length c') (acc ++ [o]).length ((acc ++ [o]).flatMap opL)) := Lib.hid (by
            rw [List.flatMap_append, List.length_append]
            simpa using hown5)
          have HLn : Hid ((acc ++ [o]).length = acc.length + 1) := Lib.hid (by simp)
          rw [← HLn.out]
          rw [← HLn.out] at HA5
          have hln : (acc ++ [o]).length ≤ i + 1 := by rw [HLn.out]; omega
          generalize acc ++ [o] = acc2 at *
          clear hgrow hat hown5 HO4 HLn hsz4 ho3
          go_wp2
          go_roundw
          case rel => exact ⟨i + 1, acc2, A', c', by omega, by go_num, rfl, hln, HZ5, HO5, HA5, HS3⟩
          case measure => simp [intOf]; omega
        · have HRR := Lib.hid (HS2.out.symm.trans (if_pos hz))
          have hz' : (z != 0) = true := bne_iff_ne.2 hz
          clear HS2 hz
          go_wp2
          go_ret3
          exact script_bad HRR.out (by omega) (below_step HW.out (below_step HB3W.out HB4.out))
    · obtain rfl : i = ls.length := by omega
      have HRR : Hid (R = (acc.map OpD.bare, 0, 0)) := Lib.hid (HS.out.symm.trans (script_end p ls _))
      have HC := Lib.hid (own_caps HO.out)
      clear HS
      go_wp2_with fail
      refine (clip_any acc.length A c HC.out.1 HC.out.2.1 HC.out.2.2 wr).mono ?_
      rintro e5 w5 ⟨rfl, rfl⟩
      go_wp2
      go_ret3
      exact script_good HRR.out HO.out HA.out (below_step HW.out (below_step HBZ.out HBr.out))
end Go.Proofs.YtofjapcgbajmiaaGreatDoor
namespace Go.Proofs.YtofjapcgbajmiaaGreatDoor
open Go.RowKit
def nilO {α : Type} : L α := ⟨[], none, 0⟩
theorem nilO_ok {α : Type} (w : World) (k : Nat) (cells : α → List Value) : LOk w k cells nilO := ⟨Nat.zero_le _, .inl rfl⟩
structure SampA where
  m : Nat
  f : Nat
  a : Nat
  k : Nat
  i : Nat
  t : Nat
  s : Nat
  c : Nat
def metaO : List FieldD := [⟨⟨#[105, 110]⟩, 8⟩, ⟨⟨#[111, 117, 116]⟩, 8⟩, ⟨⟨#[100, 114, 111, 112]⟩, 1⟩]
def parO : List FieldD := [⟨⟨#[112, 111, 114, 116]⟩, 8⟩, ⟨⟨#[108, 97, 98, 101, 108]⟩, 8⟩]
def actsO (g : SampA) : List ActD := [⟨⟨#[102, 111, 114, 119, 97, 114, 100]⟩, ⟨parO, some ⟨g.f, 0, none⟩, 2⟩, nilO⟩, ⟨⟨#[100, 114, 111, 112]⟩, nilO, nilO⟩]
def keysO : List KeyD := [⟨-1, 0, 3⟩, ⟨-1, 1, 3⟩]
def tabO (g : SampA) : TabD := ⟨⟨#[112, 97, 116, 104]⟩, ⟨keysO, some ⟨g.k, 0, none⟩, 2⟩, ⟨[0, 1], some ⟨g.i, 0, none⟩, 2⟩, 1, nilO, 9⟩
def stO : StateD := ⟨⟨#[115]⟩, nilO, false, 0, 0, nilO, -1⟩
def ctlO : CtlD := .mk 1 0 nilO [] [] none none 0 0
def sampP (g : SampA) : ProgD := ⟨⟨#[112]⟩, nilO, ⟨metaO, some ⟨g.m, 0, none⟩, 3⟩, nilO, ⟨actsO g, some ⟨g.a, 0, none⟩, 2⟩, ⟨[tabO g], some ⟨g.t, 0, none⟩, 1⟩, ⟨[stO], some ⟨g.s, 0, none⟩, 1⟩, ⟨[ctlO], some ⟨g.c, 0, none⟩, 1⟩, nilO⟩
def parCs : Array Value := #[.string ⟨#[112, 111, 114, 116]⟩, .int .i64 8, .string ⟨#[108, 97, 98, 101, 108]⟩, .int .i64 8]
def metaOs : Array Value := #[.string ⟨#[105, 110]⟩, .int .i64 8, .string ⟨#[111, 117, 116]⟩, .int .i64 8, .string ⟨#[100, 114, 111, 112]⟩, .int .i64 1]
def actOs (g : SampA) : Array Value := #[.string ⟨#[102, 111, 114, 119, 97, 114, 100]⟩, .slice (some ⟨g.f, 0, none⟩) 2 2, .slice none 0 0, .string ⟨#[100, 114, 111, 112]⟩, .slice none 0 0, .slice none 0 0]
def keyOs : Array Value := #[.int .i64 (-1), .int .i64 0, .int .i64 3, .int .i64 (-1), .int .i64 1, .int .i64 3]
def tabOs (g : SampA) : Array Value := #[.string ⟨#[112, 97, 116, 104]⟩, .slice (some ⟨g.k, 0, none⟩) 2 2, .slice (some ⟨g.i, 0, none⟩) 2 2, .int .i64 1, .slice none 0 0, .int .i64 9]
def stOs : Array Value := #[.string ⟨#[115]⟩, .slice none 0 0, .bool false, .int .i64 0, .int .i64 0, .slice none 0 0, .int .i64 (-1)]
def ctlOs : Array Value := #[.int .i64 1, .int .i64 0, .slice none 0 0, .slice none 0 0, .slice none 0 0]
structure SampAt (w : World) (g : SampA) : Prop where
  m : Blk w g.m 104 metaOs
  f : Blk w g.f 104 parCs
  a : Blk w g.a 93 (actOs g)
  k : Blk w g.k 106 keyOs
  i : Blk w g.i 3 #[.int .i64 0, .int .i64 1]
  t : Blk w g.t 59 (tabOs g)
  s : Blk w g.s 64 stOs
  c : Blk w g.c 102 ctlOs
theorem short_name (n : Nat) (h : n ≤ 16) : n ≤ maxLen := by unfold maxLen; omega
theorem samp_ok {w : World} {g : SampA} (b : SampAt w g) : ProgOk w (sampP g) where
  name := short_name 1 (by decide)
  headers := nilO_ok _ _ _
  hdr := fun _ h => by cases h
  metadata := by
    refine ⟨short_name 3 (by decide), .inr ⟨_, 0, rfl, b.m.lt, fun i hi j hj => ?_⟩⟩
    have hi' : i < 3 := hi
    rw [b.m.cell]
    match i, hi', j, hj with
    | 0, _, 0, _ => rfl
    | 0, _, 1, _ => rfl
    | 1, _, 0, _ => rfl
    | 1, _, 1, _ => rfl
    | 2, _, 0, _ => rfl
    | 2, _, 1, _ => rfl
  mnames := fun f hf => by
    simp only [sampP, metaO, List.mem_cons, List.not_mem_nil, or_false] at hf
    rcases hf with rfl | rfl | rfl
    · exact short_name 2 (by decide)
    · exact short_name 3 (by decide)
    · exact short_name 4 (by decide)
  registers := nilO_ok _ _ _
  rnames := fun _ h => by cases h
  actions := by
    refine ⟨short_name 2 (by decide), .inr ⟨_, 0, rfl, b.a.lt, fun i hi j hj => ?_⟩⟩
    have hi' : i < 2 := hi
    rw [b.a.cell]
    match i, hi', j, hj with
    | 0, _, 0, _ => rfl
    | 0, _, 1, _ => rfl
    | 0, _, 2, _ => rfl
    | 1, _, 0, _ => rfl
    | 1, _, 1, _ => rfl
    | 1, _, 2, _ => rfl
  act := fun a ha => by
    simp only [sampP, actsO, List.mem_cons, List.not_mem_nil, or_false] at ha
    rcases ha with rfl | rfl
    · refine ⟨short_name 7 (by decide), ?_, fun f hf => ?_, nilO_ok _ _ _, fun _ h => (by cases h)⟩
      · refine ⟨short_name 2 (by decide), .inr ⟨_, 0, rfl, b.f.lt, fun i hi j hj => ?_⟩⟩
        have hi' : i < 2 := hi
        rw [b.f.cell]
        match i, hi', j, hj with
        | 0, _, 0, _ => rfl
        | 0, _, 1, _ => rfl
        | 1, _, 0, _ => rfl
        | 1, _, 1, _ => rfl
      · simp only [parO, List.mem_cons, List.not_mem_nil, or_false] at hf
        rcases hf with rfl | rfl
        · exact short_name 4 (by decide)
        · exact short_name 5 (by decide)
    · exact ⟨short_name 4 (by decide), nilO_ok _ _ _, fun _ h => (by cases h), nilO_ok _ _ _, fun _ h => (by cases h)⟩
  tables := by
    refine ⟨short_name 1 (by decide), .inr ⟨_, 0, rfl, b.t.lt, fun i hi j hj => ?_⟩⟩
    have hi' : i < 1 := hi
    rw [b.t.cell]
    match i, hi', j, hj with
    | 0, _, 0, _ => rfl
    | 0, _, 1, _ => rfl
    | 0, _, 2, _ => rfl
    | 0, _, 3, _ => rfl
    | 0, _, 4, _ => rfl
    | 0, _, 5, _ => rfl
  tab := fun t ht => by
    simp only [sampP, List.mem_cons, List.not_mem_nil, or_false] at ht
    subst ht
    refine ⟨short_name 4 (by decide), ?_, ?_, nilO_ok _ _ _⟩
    · refine ⟨short_name 2 (by decide), .inr ⟨_, 0, rfl, b.k.lt, fun i hi j hj => ?_⟩⟩
      have hi' : i < 2 := hi
      rw [b.k.cell]
      match i, hi', j, hj with
      | 0, _, 0, _ => rfl
      | 0, _, 1, _ => rfl
      | 0, _, 2, _ => rfl
      | 1, _, 0, _ => rfl
      | 1, _, 1, _ => rfl
      | 1, _, 2, _ => rfl
    · refine ⟨short_name 2 (by decide), .inr ⟨_, 0, rfl, b.i.lt, fun i hi j hj => ?_⟩⟩
      have hi' : i < 2 := hi
      rw [b.i.cell]
      match i, hi', j, hj with
      | 0, _, 0, _ => rfl
      | 1, _, 0, _ => rfl
  states := by
    refine ⟨short_name 1 (by decide), .inr ⟨_, 0, rfl, b.s.lt, fun i hi j hj => ?_⟩⟩
    have hi' : i < 1 := hi
    rw [b.s.cell]
    match i, hi', j, hj with
    | 0, _, 0, _ => rfl
    | 0, _, 1, _ => rfl
    | 0, _, 2, _ => rfl
    | 0, _, 3, _ => rfl
    | 0, _, 4, _ => rfl
    | 0, _, 5, _ => rfl
    | 0, _, 6, _ => rfl
  state := fun s hs => by
    simp only [sampP, List.mem_cons, List.not_mem_nil, or_false] at hs
    subst hs
    exact ⟨short_name 1 (by decide), nilO_ok _ _ _, nilO_ok _ _ _⟩
  control := by
    refine ⟨short_name 1 (by decide), .inr ⟨_, 0, rfl, b.c.lt, fun i hi j hj => ?_⟩⟩
    have hi' : i < 1 := hi
    rw [b.c.cell]
    match i, hi', j, hj with
    | 0, _, 0, _ => rfl
    | 0, _, 1, _ => rfl
    | 0, _, 2, _ => rfl
    | 0, _, 3, _ => rfl
    | 0, _, 4, _ => rfl
  ctl := by
    show CtlsOk w [ctlO]
    rw [CtlsOk]
    refine ⟨?_, by rw [CtlsOk]; trivial⟩
    rw [ctlO, CtlOk]
    exact ⟨nilO_ok _ _ _, nilO_ok _ _ _, nilO_ok _ _ _, by rw [CtlsOk]; trivial, by rw [CtlsOk]; trivial⟩
  deparser := nilO_ok _ _ _
theorem samp_cap (g : SampA) : ProgCap (sampP g) where
  fields := fun _ h => by cases h
  params := fun a ha => by
    simp only [sampP, actsO, List.mem_cons, List.not_mem_nil, or_false] at ha
    rcases ha with rfl | rfl <;> exact Nat.le_refl _
  dep := Nat.le_refl _
  dflt := fun t ht => by
    simp only [sampP, List.mem_cons, List.not_mem_nil, or_false] at ht
    subst ht
    rfl
  args := fun t ht v hv => by
    simp only [sampP, List.mem_cons, List.not_mem_nil, or_false] at ht
    subst ht
    cases hv
  cases := fun s hs c hc => by
    simp only [sampP, List.mem_cons, List.not_mem_nil, or_false] at hs
    subst hs
    cases hc
theorem samp_nodes (g : SampA) : (presM (sampP g).control.l).length ≤ 90000 := by
  rw [show (presM (sampP g).control.l).length = 1 from by kernel_rfl]; decide
theorem samp_diag (g : SampA) : (diagM (sampP g)).code = 0 := by kernel_rfl
def o7 : OpP := ⟨3, 0, 7, [], 0, 0, [], 0, []⟩
def tDel7 : List UInt8 := [100, 101, 108, 101, 116, 101, 32, 112, 97, 116, 104, 32, 55]
theorem samp_1 (g : SampA) : fmtOp (sampP g) o7 = (tDel7, 0) := by kernel_rfl
def tIns : List UInt8 := [105, 110, 115, 101, 114, 116, 32, 112, 97, 116, 104, 32, 53, 47, 50, 53, 53, 32, 48, 47, 48, 32, 112, 114, 105, 111, 114, 105, 116, 121, 32, 51, 32, 45, 62, 32, 102, 111, 114, 119, 97, 114, 100, 40, 49, 44, 32, 50, 41]
theorem samp_2 (g : SampA) : readM (sampP g) tIns = (⟨1, 0, 0, [⟨5, 255⟩, ⟨0, 0⟩], 3, 0, [1, 2], 0, []⟩, 0) := by kernel_rfl
def tA : List UInt8 := [100, 101, 108, 101, 116, 101, 32, 32, 112, 97, 116, 104, 32, 55]
def tB : List UInt8 := [100, 101, 108, 101, 116, 101, 32, 112, 97, 116, 104]
def tC : List UInt8 := [100, 101, 108, 101, 116, 101, 32, 111, 116, 104, 101, 114, 32, 55]
def tD : List UInt8 := [100, 101, 108, 101, 116, 101, 32, 112, 97, 116, 104, 32, 48]
theorem samp_a (g : SampA) : (readM (sampP g) tA).2 = 23 := by kernel_rfl
theorem samp_b (g : SampA) : (readM (sampP g) tB).2 = 5 := by kernel_rfl
theorem samp_c (g : SampA) : (readM (sampP g) tC).2 = 8 := by kernel_rfl
theorem samp_d (g : SampA) : (readM (sampP g) tD).2 = 9 := by kernel_rfl
def tScr : List UInt8 := tDel7 ++ [10, 10] ++ [100, 101, 102, 97, 117, 108, 116, 32, 112, 97, 116, 104, 32, 45, 62, 32, 100, 114, 111, 112, 40, 41]
theorem samp_s (g : SampA) : scriptM (sampP g) tScr = ([o7, ⟨4, 0, 0, [], 0, 0, [], 1, []⟩], 0, 0) := by kernel_rfl
theorem blk_atO {w : World} {g : Nat} (h : w.heap.size = g) (t : TypeId) (cs : Array Value) : Blk (w.alloc (.cells cs t)) g t cs := h ▸ Blk.new w t cs
def sampG (n : Nat) : SampA := ⟨n, n + 1, n + 1 + 1, n + 1 + 1 + 1, n + 1 + 1 + 1 + 1, n + 1 + 1 + 1 + 1 + 1, n + 1 + 1 + 1 + 1 + 1 + 1, n + 1 + 1 + 1 + 1 + 1 + 1 + 1⟩
set_option maxRecDepth 100000 in
set_option maxHeartbeats 4000000 in
theorem sample_any (w : World) :
    Calls Tryz.prog 20 #[] w fun e w' => ∃ g, e = .returned (.agg (progCells (sampP g))) ∧ SampAt w' g ∧ Below w.heap.size w w' := by
  go_enter Tryz.func20, Tryz.ntmps20
  go_wp2
  refine bodyPost_ret (v := .agg (progCells (sampP (sampG (w.heap.size + 1))))) ?_ rfl ?_
  · exact results_cell_row (fn := Tryz.f20) (p := 0) (ty := 31) rfl _ _ w.heap.size 31 (progCells (sampP (sampG (w.heap.size + 1)))) (0, 0) _ rfl (((((((((Blk.new _ _ _).alloc _).alloc _).alloc _).alloc _).alloc _).alloc _).alloc _).alloc _) Tryz.underlying31 rfl (by kernel_rfl)
  · refine ⟨_, rfl, ⟨?_, ?_, ?_, ?_, ?_, ?_, ?_, ?_⟩, ?_⟩
    · exact (((((((blk_atO (by simp [sampG]) _ _).alloc _).alloc _).alloc _).alloc _).alloc _).alloc _).alloc _
    · exact ((((((blk_atO (by simp [sampG]) _ _).alloc _).alloc _).alloc _).alloc _).alloc _).alloc _
    · exact (((((blk_atO (by simp [sampG]) _ _).alloc _).alloc _).alloc _).alloc _).alloc _
    · exact ((((blk_atO (by simp [sampG]) _ _).alloc _).alloc _).alloc _).alloc _
    · exact (((blk_atO (by simp [sampG]) _ _).alloc _).alloc _).alloc _
    · exact ((blk_atO (by simp [sampG]) _ _).alloc _).alloc _
    · exact (blk_atO (by simp [sampG]) _ _).alloc _
    · exact blk_atO (by simp [sampG]) _ _
    · exact below_alloc (below_alloc (below_alloc (below_alloc (below_alloc (below_alloc (below_alloc (below_alloc (below1 _ _) _) _) _) _) _) _) _) _
end Go.Proofs.YtofjapcgbajmiaaGreatDoor
namespace Go.Proofs.YtofjapcgbajmiaaGreatDoor
open Go.RowKit
structure SampF (p : ProgD) : Prop where
  f : formatM p o7 = (tDel7, 0)
  i : parseOpM p tIns = (⟨1, 0, 0, [⟨5, 255⟩, ⟨0, 0⟩], 3, 0, [1, 2], 0, []⟩, 0)
  a : (parseOpM p tA).2 = 23
  b : (parseOpM p tB).2 = 5
  c : (parseOpM p tC).2 = 8
  d : (parseOpM p tD).2 = 9
  s : scriptM p tScr = ([o7, ⟨4, 0, 0, [], 0, 0, [], 1, []⟩], 0, 0)
theorem sampF (g : SampA) : SampF (sampP g) where
  f := by rw [formatM, if_neg (fun h => h (samp_diag g)), samp_1]
  i := by rw [parseOpM, if_neg (fun h => h (samp_diag g)), samp_2]
  a := by rw [parseOpM, if_neg (fun h => h (samp_diag g)), samp_a]
  b := by rw [parseOpM, if_neg (fun h => h (samp_diag g)), samp_b]
  c := by rw [parseOpM, if_neg (fun h => h (samp_diag g)), samp_c]
  d := by rw [parseOpM, if_neg (fun h => h (samp_diag g)), samp_d]
  s := samp_s g
theorem samp_good {w : World} {g : SampA} (b : SampAt w g) : ProgG w (sampP g) := ⟨samp_ok b, samp_cap g, samp_nodes g, by rw [show (sampP g).actions.l.length = 2 from rfl]; decide, by rw [show (sampP g).tables.l.length = 1 from rfl]; decide⟩
def o7D : OpD := ⟨3, 0, 7, ⟨[], none, 0⟩, 0, 0, ⟨[], none, 0⟩, 0, ⟨[], none, 0⟩⟩
theorem o7_fine : OpFine o7D.bare := ⟨by rfl, by rfl, by rfl, (fun k hk => by cases hk), by rfl, by rfl, (fun k hk => by cases hk), by rfl, (fun k hk => by cases hk)⟩
theorem o7_ok (w : World) : OpOk w o7D := ⟨nilLO _ _ _, nilLO _ _ _, nilLO _ _ _⟩
theorem two_keys {w : World} {o : OpD} (h : LOk w 2 KmD.cells o.keys) (hl : o.keys.l = [⟨5, 255⟩, ⟨0, 0⟩]) : ∃ g of, o.keys.A = some ⟨g, of, none⟩ ∧ w.cell? ⟨g, of, none⟩ = some (.int .u32 5) ∧ w.cell? ⟨g, of + 1, none⟩ = some (.int .u32 255) := by
  obtain ⟨g, of, e, _, hc⟩ := h.at (i := 0) (by rw [hl]; decide)
  refine ⟨g, of, e, ?_, ?_⟩
  · have := hc 0 (by decide)
    simpa [hl, KmD.cells] using this
  · have := hc 1 (by decide)
    simpa [hl, KmD.cells] using this
set_option maxRecDepth 100000 in
set_option maxHeartbeats 3000000 in
theorem awake_any (w : World) (ht : Tab w) (hm : MaxI w) : Calls Tryz.prog 9 #[] w fun e w' => e = .returned (.bool true) ∧ Below w.heap.size w w' := by
  have HT := Lib.hid ht
  have HM := Lib.hid hm
  clear ht hm
  go_enter Tryz.func9, Tryz.ntmps9
  go_wp2_with fail
  refine (sample_any w).mono ?_
  rintro e0 w0 ⟨gs, rfl, hat, hb0⟩
  have HG0 := samp_good hat
  have HF := Lib.hid (sampF gs)
  clear hat
  generalize sampP gs = p at *
  obtain ⟨W, hW, hbW, b0⟩ : ∃ W, W = w0.alloc (.cells (progCells p) 31) ∧ Below w0.heap.size w0 W ∧ Blk W w0.heap.size 31 (progCells p) := ⟨_, rfl, below1 _ _, Blk.new _ _ _⟩
  have HB0 : Hid (Below w.heap.size w W) := Lib.hid (below_step hb0 hbW)
  have HG := Lib.hid (HG0.below hbW)
  have HP := Lib.hid b0
  have HTW := Lib.hid (HT.out.base HB0.out)
  have HMW := Lib.hid (HM.out.below HB0.out (Nat.le_refl _))
  have HFo := Lib.hid (fun u (hb : Below W.heap.size W u) => oFormat_any p o7D u (HG.out.below hb) (o7_ok u) o7_fine (HTW.out.base hb))
  rw [show o7D.bare = o7 from rfl, HF.out.f] at HFo
  simp only [opCells, o7D, L.v, List.length_nil] at HFo
  have HPA := Lib.hid (fun (s : ByteArray) (hs : s.size ≤ 1000) u (hb : Below W.heap.size W u) => oParse_any p s u (HG.out.below hb) (Nat.le_trans hs (by unfold maxLen; decide)) (HTW.out.base hb))
  have HSA := Lib.hid (fun (s : ByteArray) u (hb : Below W.heap.size W u) => oscript_any p s u (HG.out.below hb) (HTW.out.base hb) (HMW.out.below hb (Nat.le_refl _)))
  clear HG0 hb0 hbW b0
  have hp3 : ∀ i, W.cell? ⟨w0.heap.size, i, none⟩ = (progCells p)[i]? := fun i => HP.out.cell i
  go_upto_region 2 with fail
  rw [← hW]
  clear hW
  go_wp2_with fail
  refine (HFo.out W (Below.refl _ _)).mono ?_
  rintro e1 w1 ⟨rfl, hb1⟩
  have HB1 := Lib.hid hb1
  clear hb1 hp3 HFo
  rw [show (⟨(tDel7, (0 : Int)).1.toArray⟩ : ByteArray) = ⟨#[100, 101, 108, 101, 116, 101, 32, 112, 97, 116, 104, 32, 55]⟩ from rfl]
  try simp only
  have hp3 : ∀ i, w1.cell? ⟨w0.heap.size, i, none⟩ = (progCells p)[i]? := fun i => (HP.out.below HB1.out HP.out.lt).cell i
  have HC := Lib.hid (HPA.out ⟨#[105, 110, 115, 101, 114, 116, 32, 112, 97, 116, 104, 32, 53, 47, 50, 53, 53, 32, 48, 47, 48, 32, 112, 114, 105, 111, 114, 105, 116, 121, 32, 51, 32, 45, 62, 32, 102, 111, 114, 119, 97, 114, 100, 40, 49, 44, 32, 50, 41]⟩ (by decide) w1 HB1.out)
  rw [show (⟨#[105, 110, 115, 101, 114, 116, 32, 112, 97, 116, 104, 32, 53, 47, 50, 53, 53, 32, 48, 47, 48, 32, 112, 114, 105, 111, 114, 105, 116, 121, 32, 51, 32, 45, 62, 32, 102, 111, 114, 119, 97, 114, 100, 40, 49, 44, 32, 50, 41]⟩ : ByteArray).data.toList = tIns from rfl] at HC
  go_wp2_with fail
  refine HC.out.mono ?_
  rw [HF.out.i]
  rintro e3 u3 ⟨o, rfl, hob, hL, hb⟩
  obtain ⟨X3, hX3⟩ : ∃ X3, X3 = u3.alloc (.cells (opCells o) 39) := ⟨_, rfl⟩
  have HX3 : Hid (Below w1.heap.size w1 X3) := Lib.hid (by rw [hX3]; exact below_alloc hb _)
  have HXO : Hid (Blk X3 u3.heap.size 39 (opCells o)) := Lib.hid (by rw [hX3]; exact Blk.new _ _ _)
  have HXL : Hid (OpOk X3 o) := Lib.hid (by rw [hX3]; exact hL.ok.below (below1 _ _))
  have HOB := Lib.hid hob
  clear hob hL
  have HBX3 := Lib.hid (below_step HB1.out HX3.out)
  clear hp3 HC hb HB1 HX3
  try simp only
  go_upto_region 4 with fail
  rw [← hX3]
  clear hX3
  have hp3 : ∀ i, X3.cell? ⟨w0.heap.size, i, none⟩ = (progCells p)[i]? := fun i => (HP.out.below HBX3.out HP.out.lt).cell i
  have HC := Lib.hid (HPA.out ⟨#[100, 101, 108, 101, 116, 101, 32, 32, 112, 97, 116, 104, 32, 55]⟩ (by decide) X3 HBX3.out)
  rw [show (⟨#[100, 101, 108, 101, 116, 101, 32, 32, 112, 97, 116, 104, 32, 55]⟩ : ByteArray).data.toList = tA from rfl] at HC
  go_wp2_with fail
  refine HC.out.mono ?_
  unfold ParseEnd
  rw [HF.out.a]
  rintro e4 u4 ⟨q4, rfl, _, _, hb⟩
  obtain ⟨X4, hX4⟩ : ∃ X4, X4 = u4.alloc (.cells (opCells q4) 39) := ⟨_, rfl⟩
  have HX4 : Hid (Below X3.heap.size X3 X4) := Lib.hid (by rw [hX4]; exact below_alloc hb _)
  have HXO1 := Lib.hid (HXO.out.below HX4.out HXO.out.lt)
  have HXL1 := Lib.hid (HXL.out.below HX4.out)
  clear HXO HXL
  have HBX4 := Lib.hid (below_step HBX3.out HX4.out)
  clear hp3 HC hb HBX3 HX4
  try simp only
  go_upto_region 5 with fail
  rw [← hX4]
  clear hX4
  have hp3 : ∀ i, X4.cell? ⟨w0.heap.size, i, none⟩ = (progCells p)[i]? := fun i => (HP.out.below HBX4.out HP.out.lt).cell i
  have HC := Lib.hid (HPA.out ⟨#[100, 101, 108, 101, 116, 101, 32, 112, 97, 116, 104]⟩ (by decide) X4 HBX4.out)
  rw [show (⟨#[100, 101, 108, 101, 116, 101, 32, 112, 97, 116, 104]⟩ : ByteArray).data.toList = tB from rfl] at HC
  go_wp2_with fail
  refine HC.out.mono ?_
  unfold ParseEnd
  rw [HF.out.b]
  rintro e5 u5 ⟨q5, rfl, _, _, hb⟩
  obtain ⟨X5, hX5⟩ : ∃ X5, X5 = u5.alloc (.cells (opCells q5) 39) := ⟨_, rfl⟩
  have HX5 : Hid (Below X4.heap.size X4 X5) := Lib.hid (by rw [hX5]; exact below_alloc hb _)
  have HXO2 := Lib.hid (HXO1.out.below HX5.out HXO1.out.lt)
  have HXL2 := Lib.hid (HXL1.out.below HX5.out)
  clear HXO1 HXL1
  have HBX5 := Lib.hid (below_step HBX4.out HX5.out)
  clear hp3 HC hb HBX4 HX5
  try simp only
  go_upto_region 6 with fail
  rw [← hX5]
  clear hX5
  have hp3 : ∀ i, X5.cell? ⟨w0.heap.size, i, none⟩ = (progCells p)[i]? := fun i => (HP.out.below HBX5.out HP.out.lt).cell i
  have HC := Lib.hid (HPA.out ⟨#[100, 101, 108, 101, 116, 101, 32, 111, 116, 104, 101, 114, 32, 55]⟩ (by decide) X5 HBX5.out)
  rw [show (⟨#[100, 101, 108, 101, 116, 101, 32, 111, 116, 104, 101, 114, 32, 55]⟩ : ByteArray).data.toList = tC from rfl] at HC
  go_wp2_with fail
  refine HC.out.mono ?_
  unfold ParseEnd
  rw [HF.out.c]
  rintro e6 u6 ⟨q6, rfl, _, _, hb⟩
  obtain ⟨X6, hX6⟩ : ∃ X6, X6 = u6.alloc (.cells (opCells q6) 39) := ⟨_, rfl⟩
  have HX6 : Hid (Below X5.heap.size X5 X6) := Lib.hid (by rw [hX6]; exact below_alloc hb _)
  have HXO3 := Lib.hid (HXO2.out.below HX6.out HXO2.out.lt)
  have HXL3 := Lib.hid (HXL2.out.below HX6.out)
  clear HXO2 HXL2
  have HBX6 := Lib.hid (below_step HBX5.out HX6.out)
  clear hp3 HC hb HBX5 HX6
  try simp only
  go_upto_region 7 with fail
  rw [← hX6]
  clear hX6
  have hp3 : ∀ i, X6.cell? ⟨w0.heap.size, i, none⟩ = (progCells p)[i]? := fun i => (HP.out.below HBX6.out HP.out.lt).cell i
  have HC := Lib.hid (HPA.out ⟨#[100, 101, 108, 101, 116, 101, 32, 112, 97, 116, 104, 32, 48]⟩ (by decide) X6 HBX6.out)
  rw [show (⟨#[100, 101, 108, 101, 116, 101, 32, 112, 97, 116, 104, 32, 48]⟩ : ByteArray).data.toList = tD from rfl] at HC
  go_wp2_with fail
  refine HC.out.mono ?_
  unfold ParseEnd
  rw [HF.out.d]
  rintro e7 u7 ⟨q7, rfl, _, _, hb⟩
  obtain ⟨X7, hX7⟩ : ∃ X7, X7 = u7.alloc (.cells (opCells q7) 39) := ⟨_, rfl⟩
  have HX7 : Hid (Below X6.heap.size X6 X7) := Lib.hid (by rw [hX7]; exact below_alloc hb _)
  have HXO4 := Lib.hid (HXO3.out.below HX7.out HXO3.out.lt)
  have HXL4 := Lib.hid (HXL3.out.below HX7.out)
  clear HXO3 HXL3
  have HBX7 := Lib.hid (below_step HBX6.out HX7.out)
  clear hp3 HC hb HBX6 HX7
  try simp only
  go_upto_region 8 with fail
  rw [← hX7]
  clear hX7
  have hp3 : ∀ i, X7.cell? ⟨w0.heap.size, i, none⟩ = (progCells p)[i]? := fun i => (HP.out.below HBX7.out HP.out.lt).cell i
  have HC := Lib.hid (HSA.out ⟨#[100, 101, 108, 101, 116, 101, 32, 112, 97, 116, 104, 32, 55, 10, 10, 100, 101, 102, 97, 117, 108, 116, 32, 112, 97, 116, 104, 32, 45, 62, 32, 100, 114, 111, 112, 40, 41]⟩ X7 HBX7.out)
  rw [show (⟨#[100, 101, 108, 101, 116, 101, 32, 112, 97, 116, 104, 32, 55, 10, 10, 100, 101, 102, 97, 117, 108, 116, 32, 112, 97, 116, 104, 32, 45, 62, 32, 100, 114, 111, 112, 40, 41]⟩ : ByteArray).data.toList = tScr from rfl, HF.out.s] at HC
  go_wp2_with fail
  refine HC.out.mono ?_
  rintro e8 w8 ⟨⟨sl, sA, sc⟩, rfl, hsl, _, _, _, hb⟩
  have hlen : sl.length = 2 := by have := congrArg List.length hsl; simpa using this
  have HXO5 := Lib.hid (HXO4.out.below hb HXO4.out.lt)
  have HXL5 := Lib.hid (HXL4.out.below hb)
  have HB8 := Lib.hid (below_step HB0.out (below_step HBX7.out hb))
  try simp only
  rw [hlen]
  clear hp3 HC hb hsl HXO4 HXL4
  obtain ⟨kd, tb, id, ⟨kl, kA, kc⟩, pr, ea, ⟨el, eA, ec⟩, ca, ⟨cl, cA, cc⟩⟩ := o
  simp only [OpD.bare, OpP.mk.injEq] at HOB
  have HOB2 := HOB.out
  obtain ⟨rfl, rfl, rfl, hkl, rfl, rfl, hel, rfl, rfl⟩ := HOB2
  obtain ⟨kg, ko, hkA, k0c, k1c⟩ := two_keys HXL5.out.keys hkl
  simp only at hkA
  subst hkA
  have d0 : w8.cell? ⟨u3.heap.size, 0, none⟩ = some (.int .i64 1) := HXO5.out.cell 0
  have d3 : w8.cell? ⟨u3.heap.size, 3, none⟩ = some (.slice (some ⟨kg, ko, none⟩) 2 kc) := by have := HXO5.out.cell 3; rw [this]; subst hkl; rfl
  have d4 : w8.cell? ⟨u3.heap.size, 4, none⟩ = some (.int .i64 3) := HXO5.out.cell 4
  have d6 : w8.cell? ⟨u3.heap.size, 6, none⟩ = some (.slice eA 2 ec) := by have := HXO5.out.cell 6; rw [this]; subst hel; rfl
  clear HOB hkl hel HXO5 HXL5
  go_upto_region 9 with fail
  go_wp2
  go_ret
  exact ⟨rfl, HB8.out⟩
end Go.Proofs.YtofjapcgbajmiaaGreatDoor
namespace Go.Proofs.YtofjapcgbajmiaaGreatDoor
open Go.RowKit
def goB (f : CtlD → Nat) : List CtlD → Nat → Nat
  | [], n => n
  | x :: l, n => if 60 < n then n else goB f l (n + f x)
def blocksM : Nat → List CtlD → Nat
  | 0, _ => 61
  | d + 1, l => if 60 < l.length then 61 else goB (fun x => blocksM d x.th.l + blocksM d x.el.l + x.cond.l.length / 20) l l.length
theorem goB_le {f : CtlD → Nat} {B : Nat} : ∀ {l : List CtlD} {n : Nat}, (∀ x ∈ l, f x ≤ B) → n ≤ 60 + B → goB f l n ≤ 60 + B
  | [], n, _, hn => by rw [goB]; exact hn
  | x :: l, n, hf, hn => by
    rw [goB]
    by_cases h1 : 60 < n
    · rw [if_pos h1]; exact hn
    · rw [if_neg h1]
      have h3 := hf x (List.mem_cons_self ..)
      exact goB_le (fun y hy => hf y (List.mem_cons_of_mem _ hy)) (by omega)
theorem blocks_le : ∀ (d : Nat) (l : List CtlD), CtlCaps l → blocksM d l + 293203100800 ≤ 2 ^ d * 293203100900
  | 0, l, _ => by rw [blocksM]; omega
  | d + 1, l, hc => by
    rw [blocksM]
    have hp : 2 ^ (d + 1) = 2 * 2 ^ d := by rw [Nat.pow_succ, Nat.mul_comm]
    have hp1 : 1 ≤ 2 ^ d := Nat.one_le_two_pow
    by_cases h1 : 60 < l.length
    · rw [if_pos h1, hp]; omega
    · rw [if_neg h1]
      have h2 := goB_le (f := fun x => blocksM d x.th.l + blocksM d x.el.l + x.cond.l.length / 20) (B := 2 * (2 ^ d * 293203100900) - 2 * 293203100800 + 293203100731) (l := l) (n := l.length) (fun x hx => by
        obtain ⟨_, _, b, e⟩ := hc.mem hx
        have h3 := hc.memc hx
        have h4 := blocks_le d x.th.l b
        have h5 := blocks_le d x.el.l e
        have h6 : x.cond.l.length / 20 ≤ 293203100731 := by omega
        omega) (by omega)
      rw [hp, Nat.mul_assoc]
      omega
theorem blocks_top (d : Nat) (hd : d ≤ 21) (l : List CtlD) (hc : CtlCaps l) : blocksM d l ≤ 700000000000000000 := by
  have h1 := blocks_le d l hc
  have : 2 ^ d ≤ 2 ^ 21 := Nat.pow_le_pow_right (by decide) hd
  have : 2 ^ d * 293203100900 ≤ 2 ^ 21 * 293203100900 := Nat.mul_le_mul_right _ this
  omega
theorem goB_small {f : CtlD → Nat} : ∀ {l : List CtlD} {n : Nat}, goB f l n ≤ 60 → (l.map f).sum + n = goB f l n
  | [], n, h => by simp [goB]
  | x :: l, n, h => by
    rw [goB] at h ⊢
    by_cases h1 : 60 < n
    · rw [if_pos h1] at h; omega
    · rw [if_neg h1] at h ⊢
      have b := goB_small h
      rw [← b, List.map_cons, List.sum_cons]; omega
theorem sum_leB {f g : CtlD → Nat} : ∀ {l : List CtlD}, (∀ x ∈ l, f x ≤ g x) → (l.map f).sum ≤ (l.map g).sum
  | [], _ => Nat.le_refl _
  | x :: l, h => by
    simp only [List.map_cons, List.sum_cons]
    have := h x (List.mem_cons_self ..)
    have := sum_leB (l := l) fun y hy => h y (List.mem_cons_of_mem _ hy)
    omega
theorem sum_succB {f : CtlD → Nat} : ∀ {l : List CtlD}, (l.map fun x => 1 + f x).sum = (l.map f).sum + l.length
  | [] => rfl
  | x :: l => by simp only [List.map_cons, List.sum_cons, List.length_cons, sum_succB (l := l)]; omega
theorem blocks_small : ∀ (d : Nat) (l : List CtlD), blocksM d l ≤ 60 → (presM l).length ≤ blocksM d l
  | 0, l, h => by rw [blocksM] at h; omega
  | d + 1, l, h => by
    rw [blocksM] at h ⊢
    by_cases h1 : 60 < l.length
    · rw [if_pos h1] at h; omega
    · rw [if_neg h1] at h ⊢
      have b := goB_small h
      rw [← b, pres_sum, ← sum_succB]
      refine sum_leB fun x hm => ?_
      have hx := sum_mem (f := fun x => blocksM d x.th.l + blocksM d x.el.l + x.cond.l.length / 20) hm
      have h1 := blocks_small d x.th.l (by omega)
      have h2 := blocks_small d x.el.l (by omega)
      rw [preM_eq, List.length_cons, List.length_append]
      omega
set_option maxRecDepth 100000 in
set_option maxHeartbeats 8000000 in
theorem cblocks_any : ∀ (d : Nat) (D : Int) (c : L CtlD) (w : World), D = 21 - (d : Int) → d ≤ 21 → CtlCaps c.l → LOk w 5 CtlD.cells c → CtlsOk w c.l →
    Calls Tryz.prog 19 #[.slice c.A c.l.length c.c, .int .i64 D, .int .i64 60] w fun e w' => e = .returned (.int .i64 (blocksM d c.l : Int)) ∧ Below w.heap.size w w'
  | 0, D, ⟨cl, cA, cc⟩, w, hD, _, _, hc, _ => by
    have hd0 : D = 21 := by omega
    subst hd0
    have HE : Hid (blocksM 0 cl = 61) := Lib.hid rfl
    simp only
    have hl := hc.1
    unfold maxLen at hl
    clear hD hc
    by_cases h0 : 60 < cl.length
    · have h2 : ((60 : Int) < (cl.length : Int)) := by omega
      go_enter Tryz.func19, Tryz.ntmps19
      go_wp2
      go_ret
      exact ⟨by rw [HE.out]; rfl, Below.refl _ _⟩
    · have h2 : ¬ ((60 : Int) < (cl.length : Int)) := by omega
      go_enter Tryz.func19, Tryz.ntmps19
      go_wp2
      go_ret
      exact ⟨by rw [HE.out]; rfl, Below.refl _ _⟩
  | d + 1, D, ⟨cl, cA, cc⟩, w, hD, hd, hcap, hc, hcs => by
    have IH := Lib.hid (cblocks_any d)
    have HC := Lib.hid hc
    have HCS := Lib.hid hcs
    have HCap := Lib.hid hcap
    have hl := hc.1
    unfold maxLen at hl
    have HD := Lib.hid (show IntKind.i64.wrap (D + 1) = 21 - (d : Int) by rw [IntWalk.i64_in _ (by omega)]; omega)
    have HDle := Lib.hid (show d ≤ 21 by omega)
    have hD1 : 0 ≤ D := by omega
    have hD2 : ¬ (20 < D) := by omega
    simp only at hl HCS HCap ⊢
    by_cases h60 : 60 < cl.length
    · have HE : Hid (blocksM (d + 1) cl = 61) := Lib.hid (by rw [blocksM, if_pos h60])
      have h2 : ((60 : Int) < (cl.length : Int)) := by omega
      clear hc hcs hcap hD hd
      go_enter Tryz.func19, Tryz.ntmps19
      go_wp2
      go_ret
      exact ⟨by rw [HE.out]; rfl, Below.refl _ _⟩
    have h2 : ¬ ((60 : Int) < (cl.length : Int)) := by omega
    obtain ⟨f, hf⟩ : ∃ f : CtlD → Nat, f = fun x => blocksM d x.th.l + blocksM d x.el.l + x.cond.l.length / 20 := ⟨_, rfl⟩
    have HF := Lib.hid hf
    have HE : Hid (goB f cl cl.length = blocksM (d + 1) cl) := Lib.hid (by rw [hf, blocksM, if_neg h60])
    have hl60 : cl.length ≤ 60 := by omega
    clear hc hcs hcap hD hd hf
    generalize blocksM (d + 1) cl = R at *
    go_enter Tryz.func19, Tryz.ntmps19
    go_wp2
    go_loopw [7, 8] (fun nv iv wr => ∃ k n : Nat, k ≤ cl.length ∧ iv = .int .i64 k ∧ nv = .int .i64 n ∧ n ≤ 2000000000000000000 ∧ Hid (goB f (cl.drop k) n = R) ∧ Below w.heap.size w wr) (fun _ i _ => cl.length - (intOf i).toNat)
    case atStart => exact ⟨0, cl.length, Nat.zero_le _, rfl, rfl, by omega, HE, Below.refl _ _⟩
    case round =>
      obtain ⟨k, n, hk, rfl, rfl, hn, HG, HB⟩ := hrel
      by_cases hlt : k < cl.length
      · by_cases hn1 : 60 < n
        · have HR : Hid (R = n) := Lib.hid (by rw [← HG.out, List.drop_eq_getElem_cons hlt, goB, if_pos hn1])
          have hn2 : ¬ ((n : Int) ≤ 60) := by omega
          clear hn1
          go_wp2
          go_ret
          exact ⟨by rw [HR.out]; rfl, HB⟩
        · obtain ⟨g0, of0, hA, hall⟩ := CtlD.atA (HC.out.below HB (Nat.le_refl _)) hlt
          have hn2 : ((n : Int) ≤ 60) := by omega
          simp only at hA
          subst hA
          have HX : Hid (CtlOk w cl[k]) := Lib.hid (ctls_mem HCS.out (List.getElem_mem hlt))
          have HXc := Lib.hid (HCap.out.mem (List.getElem_mem hlt))
          have hcc := HCap.out.memc (List.getElem_mem hlt)
          have HS : Hid (goB f (cl.drop k) n = goB f (cl.drop (k + 1)) (n + f cl[k])) := Lib.hid (by
            rw [List.drop_eq_getElem_cons hlt, goB, if_neg hn1])
          have HTop : Hid (blocksM d cl[k].th.l ≤ 700000000000000000 ∧ blocksM d cl[k].el.l ≤ 700000000000000000) := Lib.hid ⟨blocks_top d HDle.out _ HXc.out.2.2.1, blocks_top d HDle.out _ HXc.out.2.2.2⟩
          have HFx : Hid (f cl[k] = blocksM d cl[k].th.l + blocksM d cl[k].el.l + cl[k].cond.l.length / 20) := Lib.hid (by rw [HF.out])
          generalize cl[k] = x at *
          have HXt : Hid (LOk w 5 CtlD.cells x.th ∧ CtlsOk w x.th.l) := Lib.hid ⟨(ctl_parts HX.out).2.1, (ctl_parts HX.out).2.2.2.1⟩
          have HXe : Hid (LOk w 5 CtlD.cells x.el ∧ CtlsOk w x.el.l) := Lib.hid ⟨(ctl_parts HX.out).2.2.1, (ctl_parts HX.out).2.2.2.2⟩
          clear HX
          have HR := Lib.hid (HS.out.symm.trans HG.out)
          rw [HFx.out] at HR
          have hb3 : ∀ w', Below wr.heap.size wr w' → w'.cell? ⟨g0, of0 + k * 5 + 2, none⟩ = some (.slice x.cond.A x.cond.l.length x.cond.c) ∧ w'.cell? ⟨g0, of0 + k * 5 + 3, none⟩ = some (.slice x.th.A x.th.l.length x.th.c) ∧ w'.cell? ⟨g0, of0 + k * 5 + 4, none⟩ = some (.slice x.el.A x.el.l.length x.el.c) :=
            fun w' h => ⟨(hall w' h).2.2.1, (hall w' h).2.2.2.1, (hall w' h).2.2.2.2⟩
          clear hall HFx
          generalize x.cond = xcd at *
          generalize x.th = xt at *
          generalize x.el = xe at *
          obtain ⟨dl, dA, dc⟩ := xcd
          obtain ⟨tl, tA, tc⟩ := xt
          obtain ⟨el, eA, ec⟩ := xe
          simp only at hb3 HXt HXe HXc HTop HR hcc
          have HCt : Hid (∀ w', Below wr.heap.size wr w' → Calls Tryz.prog 19 #[.slice tA tl.length tc, .int .i64 (IntKind.i64.wrap (D + 1)), .int .i64 60] w' fun e w2 => e = .returned (.int .i64 (blocksM d tl : Int)) ∧ Below w'.heap.size w' w2) :=
            Lib.hid (fun w' h => IH.out (IntKind.i64.wrap (D + 1)) ⟨tl, tA, tc⟩ w' HD.out HDle.out HXc.out.2.2.1 (HXt.out.1.below (below_step HB h) (Nat.le_refl _)) (CtlsOk.below (below_step HB h) HXt.out.2))
          have HCe : Hid (∀ w', Below wr.heap.size wr w' → Calls Tryz.prog 19 #[.slice eA el.length ec, .int .i64 (IntKind.i64.wrap (D + 1)), .int .i64 60] w' fun e w2 => e = .returned (.int .i64 (blocksM d el : Int)) ∧ Below w'.heap.size w' w2) :=
            Lib.hid (fun w' h => IH.out (IntKind.i64.wrap (D + 1)) ⟨el, eA, ec⟩ w' HD.out HDle.out HXc.out.2.2.2 (HXe.out.1.below (below_step HB h) (Nat.le_refl _)) (CtlsOk.below (below_step HB h) HXe.out.2))
          have t1 := HTop.out.1
          have t2 := HTop.out.2
          have hdv : (dl.length : Int).tdiv 20 = ((dl.length / 20 : Nat) : Int) := by rw [Int.tdiv_eq_ediv_of_nonneg (by omega)]; rfl
          have hdu : dl.length / 20 ≤ 293203100731 := by omega
          generalize dl.length / 20 = dq at *
          generalize blocksM d tl = a at *
          generalize blocksM d el = b at *
          have H0 := Lib.hid (Below.refl wr.heap.size wr)
          have HBw := Lib.hid HB
          clear HB HXt HXe HXc HTop
          go_upto_region 7 with fail
          go_region_held3 (fun w' => Below wr.heap.size wr w') (first | exact H0.out | exact below_drew H0.out | (exact below_step (by assumption) (by assumption)) | assumption)
            (first | (go_at_call 19; with_reducible (refine (HCt.out _ (by assumption)).mono ?_); rintro e w1 ⟨rfl, hb1⟩)
                   | (go_at_call 19; with_reducible (refine (HCe.out _ (by assumption)).mono ?_); rintro e w1 ⟨rfl, hb1⟩))
          have HB5 : Hid (Below wr.heap.size wr _) := Lib.hid (by assumption)
          go_wp2
          go_roundw
          case rel => exact ⟨k + 1, n + (a + b + dq), by omega, by go_num, by (rw [IntWalk.i64_in (dq : Int) (by omega), IntWalk.i64_in ((a : Int) + (b : Int)) (by omega), IntWalk.i64_in ((a : Int) + (b : Int) + (dq : Int)) (by omega), IntWalk.i64_in ((n : Int) + ((a : Int) + (b : Int) + (dq : Int))) (by omega)]; first | (congr 1; done) | (congr 1; omega)), by omega, HR, below_step HBw.out HB5.out⟩
          case measure => simp [intOf]; omega
      · have HR : Hid (R = n) := Lib.hid (by rw [← HG.out, List.drop_eq_nil_of_le (by omega), goB])
        go_wp2
        go_ret
        exact ⟨by rw [HR.out]; rfl, HB⟩
end Go.Proofs.YtofjapcgbajmiaaGreatDoor
namespace Go.Proofs.YtofjapcgbajmiaaGreatDoor
open Go.RowKit
def YesO (e : Ending) (Q : Prop) : Prop := ∃ b, e = .returned (.bool b) ∧ (b = true → Q)
theorem YesO.no {Q : Prop} : YesO (.returned (.bool false)) Q := ⟨false, rfl, by intro h; cases h⟩
theorem YesO.yes {Q : Prop} (h : Q) : YesO (.returned (.bool true)) Q := ⟨true, rfl, fun _ => h⟩
structure Sm16 (p : ProgD) : Prop where
  headers : p.headers.l.length ≤ 20
  metadata : p.metadata.l.length ≤ 30
  registers : p.registers.l.length ≤ 20
  actions : p.actions.l.length ≤ 40
structure Sm22 (p : ProgD) : Prop extends Sm16 p where
  tables : p.tables.l.length ≤ 30
  states : p.states.l.length ≤ 30
  deparser : p.deparser.l.length ≤ 30
  nodes : (presM p.control.l).length ≤ 60
set_option maxRecDepth 100000 in
set_option maxHeartbeats 16000000 in
theorem small16_any (p : ProgD) (w : World) (o : ProgOk w p) :
    Calls Tryz.prog 18 #[.agg (progCells p)] w fun e w' => YesO e (Sm16 p) ∧ Below w.heap.size w w' := by
  obtain ⟨W, hW⟩ : ∃ W, W = w.alloc (.cells (progCells p) 31) := ⟨_, rfl⟩
  have HW : Hid (Below w.heap.size w W) := Lib.hid (by rw [hW]; exact below1 _ _)
  have HP : Hid (Blk W w.heap.size 31 (progCells p)) := Lib.hid (by rw [hW]; exact Blk.new _ _ _)
  have HQ := Lib.hid (fun w' (h : Below W.heap.size W w') (i : Nat) => (HP.out.below h HP.out.lt).cell i)
  have HO := Lib.hid (o.below HW.out)
  have HB0 := Lib.hid (Below.refl W.heap.size W)
  have L1 := o.headers.1
  have L2 := o.metadata.1
  have L3 := o.registers.1
  have L4 := o.actions.1
  unfold maxLen at L1 L2 L3 L4
  clear o HP
  go_enter Tryz.func18, Tryz.ntmps18
  go_upto_region 1 with fail
  rw [← hW]
  clear hW
  have s1 : W.cell? ⟨w.heap.size, 1, none⟩ = some (.slice p.headers.A p.headers.l.length p.headers.c) := HQ.out W HB0.out 1
  have s2 : W.cell? ⟨w.heap.size, 2, none⟩ = some (.slice p.metadata.A p.metadata.l.length p.metadata.c) := HQ.out W HB0.out 2
  have s3 : W.cell? ⟨w.heap.size, 3, none⟩ = some (.slice p.registers.A p.registers.l.length p.registers.c) := HQ.out W HB0.out 3
  have s4 : W.cell? ⟨w.heap.size, 4, none⟩ = some (.slice p.actions.A p.actions.l.length p.actions.c) := HQ.out W HB0.out 4
  by_cases c0 : (20 : Int) < (p.headers.l.length : Int)
  case pos =>
    go_wp2
    go_ret
    exact ⟨YesO.no, below_step HW.out HB0.out⟩
  by_cases c1 : (30 : Int) < (p.metadata.l.length : Int)
  case pos =>
    go_wp2
    go_ret
    exact ⟨YesO.no, below_step HW.out HB0.out⟩
  by_cases c2 : (20 : Int) < (p.registers.l.length : Int)
  case pos =>
    go_wp2
    go_ret
    exact ⟨YesO.no, below_step HW.out HB0.out⟩
  by_cases c3 : (40 : Int) < (p.actions.l.length : Int)
  case pos =>
    go_wp2
    go_ret
    exact ⟨YesO.no, below_step HW.out HB0.out⟩
  have HS : Hid (Sm16 p) := Lib.hid ⟨by omega, by omega, by omega, by omega⟩
  have bn0 : p.headers.l.length ≤ 20 := by omega
  have bn1 : p.registers.l.length ≤ 20 := by omega
  have bn2 : p.actions.l.length ≤ 40 := by omega
  go_wp2
  clear s1 s2 s3 s4 c0 c1 c2 c3 L1 L2 L3 L4
  go_loopw [3, 4] (fun iv _ wr => ∃ k : Nat, k ≤ p.actions.l.length ∧ iv = .int .i64 k ∧ Below W.heap.size W wr) (fun i _ _ => p.actions.l.length - (intOf i).toNat)
  case atStart => exact ⟨0, Nat.zero_le _, rfl, HB0.out⟩
  case round =>
  obtain ⟨k, hk, rfl, HB⟩ := hrel
  have s4 : wr.cell? ⟨w.heap.size, 4, none⟩ = some (.slice p.actions.A p.actions.l.length p.actions.c) := HQ.out wr HB 4
  by_cases hlt : k < p.actions.l.length
  case pos =>
    obtain ⟨g, of, hA, hall⟩ := ActD.atA HO.out.actions hlt
    have hd := hall wr HB
    rw [hA] at s4
    have hBe := Lib.hid HB
    have HLT := Lib.hid (show k + 1 ≤ p.actions.l.length from hlt)
    have HIn := Lib.hid (HO.out.act _ (List.getElem_mem hlt))
    generalize p.actions.l[k] = s at *
    obtain ⟨nm, pl, bl⟩ := s
    simp only at hall hd HIn
    obtain ⟨d0, d1, d2⟩ := hd
    by_cases t0 : (20 : Int) < (pl.l.length : Int)
    case pos =>
      go_wp2
      go_ret
      exact ⟨YesO.no, below_step HW.out hBe.out⟩
    by_cases t1 : (30 : Int) < (bl.l.length : Int)
    case pos =>
      go_wp2
      go_ret
      exact ⟨YesO.no, below_step HW.out hBe.out⟩
    have HAl := Lib.hid hall
    have HAA := Lib.hid hA
    clear hall hA HB
    go_wp2
    clear d0 d1 d2 s4
    go_loopw [4] (fun iv wr => ∃ j : Nat, j ≤ bl.l.length ∧ iv = .int .i64 j ∧ Below W.heap.size W wr) (fun i _ => bl.l.length - (intOf i).toNat)
    case atStart => exact ⟨0, Nat.zero_le _, rfl, hBe.out⟩
    case round =>
      obtain ⟨j, hj, rfl, HB⟩ := hrel
      have s4 : wr.cell? ⟨w.heap.size, 4, none⟩ = some (.slice p.actions.A p.actions.l.length p.actions.c) := HQ.out wr HB 4
      rw [HAA.out] at s4
      have hd := HAl.out wr HB
      obtain ⟨d0, d1, d2⟩ := hd
      have hBi := Lib.hid HB
      by_cases hjt : j < bl.l.length
      · obtain ⟨g2, of2, hA2, hall2⟩ := StmtD.atA HIn.out.body hjt
        have hd2 := hall2 wr HB
        have HJT := Lib.hid (show j + 1 ≤ bl.l.length from hjt)
        obtain ⟨ql, qA, qc⟩ := bl
        simp only at hA2 hd2 HJT hj hjt d2 t1
        subst hA2
        generalize ql[j] = s2 at *
        obtain ⟨z1, z2, z3, z4, z5, il, vl⟩ := s2
        simp only at hd2
        obtain ⟨e0, e1, e2, e3, e4, e5, e6⟩ := hd2
        clear hall2
        by_cases u0 : (60 : Int) < (il.l.length : Int)
        case pos =>
          go_wp2
          go_ret
          exact ⟨YesO.no, below_step HW.out hBi.out⟩
        by_cases u1 : (60 : Int) < (vl.l.length : Int)
        case pos =>
          go_wp2
          go_ret
          exact ⟨YesO.no, below_step HW.out hBi.out⟩
        go_wp2
        go_roundw
        case rel => exact ⟨j + 1, HJT.out, by go_num, hBi.out⟩
        case measure => have := HJT.out; simp [intOf]; omega
      · go_wp2
        go_roundw
        case rel => exact ⟨k + 1, HLT.out, by go_num, hBi.out⟩
        case measure => have := HLT.out; simp [intOf]; omega
  have hk' : k = p.actions.l.length := by omega
  have HBk := Lib.hid HB
  clear HB
  have s1 : wr.cell? ⟨w.heap.size, 1, none⟩ = some (.slice p.headers.A p.headers.l.length p.headers.c) := HQ.out wr HBk.out 1
  go_wp2
  clear s4 s1 hlt hk hk'
  go_loopw [5] (fun iv wr => ∃ k : Nat, k ≤ p.headers.l.length ∧ iv = .int .i64 k ∧ Below W.heap.size W wr) (fun i _ => p.headers.l.length - (intOf i).toNat)
  case atStart => exact ⟨0, Nat.zero_le _, rfl, HBk.out⟩
  case round =>
  obtain ⟨k, hk, rfl, HB⟩ := hrel
  have s1 : wr.cell? ⟨w.heap.size, 1, none⟩ = some (.slice p.headers.A p.headers.l.length p.headers.c) := HQ.out wr HB 1
  by_cases hlt : k < p.headers.l.length
  case pos =>
    obtain ⟨g, of, hA, hall⟩ := HeaderD.atA HO.out.headers hlt
    have hd := hall wr HB
    rw [hA] at s1
    have hBe := Lib.hid HB
    have HLT := Lib.hid (show k + 1 ≤ p.headers.l.length from hlt)
    generalize p.headers.l[k] = s at *
    obtain ⟨nm, fl⟩ := s
    simp only at hall hd
    obtain ⟨d0, d1⟩ := hd
    clear hall hA
    by_cases t0 : (40 : Int) < (fl.l.length : Int)
    case pos =>
      go_wp2
      go_ret
      exact ⟨YesO.no, below_step HW.out hBe.out⟩
    go_wp2
    go_roundw
    case rel => exact ⟨k + 1, HLT.out, by go_num, hBe.out⟩
    case measure => have := HLT.out; simp [intOf]; omega
  have hk' : k = p.headers.l.length := by omega
  have HBk := Lib.hid HB
  clear HB
  have s3 : wr.cell? ⟨w.heap.size, 3, none⟩ = some (.slice p.registers.A p.registers.l.length p.registers.c) := HQ.out wr HBk.out 3
  go_wp2
  clear s3 s1 hlt hk hk'
  go_loopw [6] (fun iv wr => ∃ k : Nat, k ≤ p.registers.l.length ∧ iv = .int .i64 k ∧ Below W.heap.size W wr) (fun i _ => p.registers.l.length - (intOf i).toNat)
  case atStart => exact ⟨0, Nat.zero_le _, rfl, HBk.out⟩
  case round =>
  obtain ⟨k, hk, rfl, HB⟩ := hrel
  have s3 : wr.cell? ⟨w.heap.size, 3, none⟩ = some (.slice p.registers.A p.registers.l.length p.registers.c) := HQ.out wr HB 3
  by_cases hlt : k < p.registers.l.length
  case pos =>
    obtain ⟨g, of, hA, hall⟩ := RegD.atA HO.out.registers hlt
    have hd := hall wr HB
    rw [hA] at s3
    have hBe := Lib.hid HB
    have HLT := Lib.hid (show k + 1 ≤ p.registers.l.length from hlt)
    generalize p.registers.l[k] = s at *
    obtain ⟨nm, z1, z2⟩ := s
    simp only at hall hd
    obtain ⟨d0, d1, d2⟩ := hd
    clear hall hA
    by_cases t0 : (200 : Int) < z2
    case pos =>
      go_wp2
      go_ret
      exact ⟨YesO.no, below_step HW.out hBe.out⟩
    go_wp2
    go_roundw
    case rel => exact ⟨k + 1, HLT.out, by go_num, hBe.out⟩
    case measure => have := HLT.out; simp [intOf]; omega
  have hk' : k = p.registers.l.length := by omega
  have HBk := Lib.hid HB
  clear HB
  go_wp2
  go_ret
  exact ⟨YesO.yes HS.out, below_step HW.out HBk.out⟩
set_option maxRecDepth 100000 in
set_option maxHeartbeats 16000000 in
theorem small22_any (p : ProgD) (w : World) (o : ProgOk w p) (hcap : CtlCaps p.control.l) :
    Calls Tryz.prog 7 #[.agg (progCells p)] w fun e w' => YesO e (Sm22 p) ∧ Below w.heap.size w w' := by
  obtain ⟨W, hW⟩ : ∃ W, W = w.alloc (.cells (progCells p) 31) := ⟨_, rfl⟩
  have HW : Hid (Below w.heap.size w W) := Lib.hid (by rw [hW]; exact below1 _ _)
  have HP : Hid (Blk W w.heap.size 31 (progCells p)) := Lib.hid (by rw [hW]; exact Blk.new _ _ _)
  have HQ := Lib.hid (fun w' (h : Below W.heap.size W w') (i : Nat) => (HP.out.below h HP.out.lt).cell i)
  have HO := Lib.hid (o.below HW.out)
  have HB0 := Lib.hid (Below.refl W.heap.size W)
  have L5 := o.tables.1
  have L6 := o.states.1
  have L8 := o.deparser.1
  unfold maxLen at L5 L6 L8
  have HC16 := Lib.hid (fun u (hb : Below W.heap.size W u) => small16_any p u (HO.out.below hb))
  have HCb := Lib.hid (fun u (hb : Below W.heap.size W u) => cblocks_any 21 0 p.control u rfl (Nat.le_refl _) hcap (HO.out.control.below hb (Nat.le_refl _)) (CtlsOk.below hb HO.out.ctl))
  have HBS := Lib.hid (blocks_small 21 p.control.l)
  have hbt := blocks_top 21 (Nat.le_refl _) p.control.l hcap
  generalize blocksM 21 p.control.l = nb at *
  clear o HP hcap
  go_enter Tryz.func7, Tryz.ntmps7
  go_upto_region 1 with fail
  rw [← hW]
  clear hW
  have s1 : W.cell? ⟨w.heap.size, 1, none⟩ = some (.slice p.headers.A p.headers.l.length p.headers.c) := HQ.out W HB0.out 1
  have s2 : W.cell? ⟨w.heap.size, 2, none⟩ = some (.slice p.metadata.A p.metadata.l.length p.metadata.c) := HQ.out W HB0.out 2
  have s3 : W.cell? ⟨w.heap.size, 3, none⟩ = some (.slice p.registers.A p.registers.l.length p.registers.c) := HQ.out W HB0.out 3
  have s4 : W.cell? ⟨w.heap.size, 4, none⟩ = some (.slice p.actions.A p.actions.l.length p.actions.c) := HQ.out W HB0.out 4
  have s5 : W.cell? ⟨w.heap.size, 5, none⟩ = some (.slice p.tables.A p.tables.l.length p.tables.c) := HQ.out W HB0.out 5
  have s6 : W.cell? ⟨w.heap.size, 6, none⟩ = some (.slice p.states.A p.states.l.length p.states.c) := HQ.out W HB0.out 6
  have s7 : W.cell? ⟨w.heap.size, 7, none⟩ = some (.slice p.control.A p.control.l.length p.control.c) := HQ.out W HB0.out 7
  have s8 : W.cell? ⟨w.heap.size, 8, none⟩ = some (.slice p.deparser.A p.deparser.l.length p.deparser.c) := HQ.out W HB0.out 8
  have s0 : W.cell? ⟨w.heap.size, 0, none⟩ = some (.string p.name) := HQ.out W HB0.out 0
  go_wp2_with fail
  refine (HC16.out _ HB0.out).mono ?_
  rintro e w1 ⟨⟨b, rfl, hb⟩, hb1⟩
  replace HB1 := Lib.hid (below_step HB0.out hb1)
  clear s0 s1 s2 s3 s4 s5 s6 s7 s8 hb1
  cases b with
  | false =>
    go_wp2
    go_ret
    exact ⟨YesO.no, below_step HW.out HB1.out⟩
  | true =>
  have H16 := Lib.hid (hb rfl)
  clear hb
  have s5 : w1.cell? ⟨w.heap.size, 5, none⟩ = some (.slice p.tables.A p.tables.l.length p.tables.c) := HQ.out w1 HB1.out 5
  have s6 : w1.cell? ⟨w.heap.size, 6, none⟩ = some (.slice p.states.A p.states.l.length p.states.c) := HQ.out w1 HB1.out 6
  have s7 : w1.cell? ⟨w.heap.size, 7, none⟩ = some (.slice p.control.A p.control.l.length p.control.c) := HQ.out w1 HB1.out 7
  have s8 : w1.cell? ⟨w.heap.size, 8, none⟩ = some (.slice p.deparser.A p.deparser.l.length p.deparser.c) := HQ.out w1 HB1.out 8
  by_cases c0 : (30 : Int) < (p.tables.l.length : Int)
  case pos =>
    go_wp2
    go_ret
    exact ⟨YesO.no, below_step HW.out HB1.out⟩
  by_cases c1 : (30 : Int) < (p.states.l.length : Int)
  case pos =>
    go_wp2
    go_ret
    exact ⟨YesO.no, below_step HW.out HB1.out⟩
  by_cases c2 : (30 : Int) < (p.deparser.l.length : Int)
  case pos =>
    go_wp2
    go_ret
    exact ⟨YesO.no, below_step HW.out HB1.out⟩
  go_wp2_with fail
  refine (HCb.out _ HB1.out).mono ?_
  rintro e w2 ⟨rfl, hb2⟩
  have HB2 := Lib.hid (below_step HB1.out hb2)
  clear s5 s6 s7 s8 hb2
  by_cases c4 : (60 : Int) < (nb : Int)
  case pos =>
    go_wp2
    go_ret
    exact ⟨YesO.no, below_step HW.out HB2.out⟩
  have HS : Hid (Sm22 p) := Lib.hid ⟨H16.out, by omega, by omega, by omega, by have := HBS.out (by omega); omega⟩
  have bn0 : p.tables.l.length ≤ 30 := by omega
  have bn1 : p.states.l.length ≤ 30 := by omega
  have s5 : w2.cell? ⟨w.heap.size, 5, none⟩ = some (.slice p.tables.A p.tables.l.length p.tables.c) := HQ.out w2 HB2.out 5
  go_wp2
  clear s5 c0 c1 c2 c4 L5 L6 L8
  go_loopw [3] (fun iv wr => ∃ k : Nat, k ≤ p.tables.l.length ∧ iv = .int .i64 k ∧ Below W.heap.size W wr) (fun i _ => p.tables.l.length - (intOf i).toNat)
  case atStart => exact ⟨0, Nat.zero_le _, rfl, HB2.out⟩
  case round =>
  obtain ⟨k, hk, rfl, HB⟩ := hrel
  have s5 : wr.cell? ⟨w.heap.size, 5, none⟩ = some (.slice p.tables.A p.tables.l.length p.tables.c) := HQ.out wr HB 5
  by_cases hlt : k < p.tables.l.length
  case pos =>
    obtain ⟨g, of, hA, hall⟩ := TabD.atA HO.out.tables hlt
    have hd := hall wr HB
    rw [hA] at s5
    have hBe := Lib.hid HB
    have HLT := Lib.hid (show k + 1 ≤ p.tables.l.length from hlt)
    generalize p.tables.l[k] = s at *
    obtain ⟨nm, kl, al, z1, gl, z2⟩ := s
    simp only at hall hd
    obtain ⟨d0, d1, d2, d3, d4, d5⟩ := hd
    clear hall hA
    by_cases t0 : (20 : Int) < (kl.l.length : Int)
    case pos =>
      go_wp2
      go_ret
      exact ⟨YesO.no, below_step HW.out hBe.out⟩
    by_cases t1 : (40 : Int) < (al.l.length : Int)
    case pos =>
      go_wp2
      go_ret
      exact ⟨YesO.no, below_step HW.out hBe.out⟩
    by_cases t2 : (40 : Int) < (gl.l.length : Int)
    case pos =>
      go_wp2
      go_ret
      exact ⟨YesO.no, below_step HW.out hBe.out⟩
    go_wp2
    go_roundw
    case rel => exact ⟨k + 1, HLT.out, by go_num, hBe.out⟩
    case measure => have := HLT.out; simp [intOf]; omega
  have hk' : k = p.tables.l.length := by omega
  have HBk := Lib.hid HB
  clear HB
  have s6 : wr.cell? ⟨w.heap.size, 6, none⟩ = some (.slice p.states.A p.states.l.length p.states.c) := HQ.out wr HBk.out 6
  go_wp2
  clear s6 s5 hlt hk hk'
  go_loopw [4] (fun iv wr => ∃ k : Nat, k ≤ p.states.l.length ∧ iv = .int .i64 k ∧ Below W.heap.size W wr) (fun i _ => p.states.l.length - (intOf i).toNat)
  case atStart => exact ⟨0, Nat.zero_le _, rfl, HBk.out⟩
  case round =>
  obtain ⟨k, hk, rfl, HB⟩ := hrel
  have s6 : wr.cell? ⟨w.heap.size, 6, none⟩ = some (.slice p.states.A p.states.l.length p.states.c) := HQ.out wr HB 6
  by_cases hlt : k < p.states.l.length
  case pos =>
    obtain ⟨g, of, hA, hall⟩ := StateD.atA HO.out.states hlt
    have hd := hall wr HB
    rw [hA] at s6
    have hBe := Lib.hid HB
    have HLT := Lib.hid (show k + 1 ≤ p.states.l.length from hlt)
    generalize p.states.l[k] = s at *
    obtain ⟨nm, xl, z1, z2, z3, cl, z4⟩ := s
    simp only at hall hd
    obtain ⟨d0, d1, d2, d3, d4, d5, d6⟩ := hd
    clear hall hA
    by_cases t0 : (20 : Int) < (xl.l.length : Int)
    case pos =>
      go_wp2
      go_ret
      exact ⟨YesO.no, below_step HW.out hBe.out⟩
    by_cases t1 : (20 : Int) < (cl.l.length : Int)
    case pos =>
      go_wp2
      go_ret
      exact ⟨YesO.no, below_step HW.out hBe.out⟩
    go_wp2
    go_roundw
    case rel => exact ⟨k + 1, HLT.out, by go_num, hBe.out⟩
    case measure => have := HLT.out; simp [intOf]; omega
  have hk' : k = p.states.l.length := by omega
  have HBk := Lib.hid HB
  clear HB
  go_wp2
  go_ret
  exact ⟨YesO.yes HS.out, below_step HW.out HBk.out⟩
end Go.Proofs.YtofjapcgbajmiaaGreatDoor
namespace Go.Proofs.YtofjapcgbajmiaaGreatDoor
open Go.RowKit
theorem Sm22.good {w : World} {p : ProgD} (h : Sm22 p) (o : ProgOk w p) (c : ProgCap p) : ProgG w p :=
  ⟨o, c, Nat.le_trans h.nodes (by decide), Nat.le_trans h.actions (by decide), Nat.le_trans h.tables (by decide)⟩
theorem reqOps_n {x y : L OpD} {w : World} (n : Nat) (hxn : x.l.length = n) (hyn : y.l.length = n) (hx : LOk w 9 opL x) (hy : LOk w 9 opL y) (hxo : ∀ o ∈ x.l, OpOk w o) (hyo : ∀ o ∈ y.l, OpOk w o) (h : x.l.map OpD.bare = y.l.map OpD.bare) :
    Calls Tryz.prog 17 #[.slice x.A n x.c, .slice y.A n y.c] w fun e w' => e = .returned (.bool true) ∧ Below w.heap.size w w' := by
  have hq := reqOps_t x y w hx hy hxo hyo h
  rw [hxn, hyn] at hq
  exact hq
theorem LOk.takeO {w : World} {k : Nat} {α : Type} {cells : α → List Value} {l : List α} {A : Option Addr} {c n : Nat} (h : LOk w k cells ⟨l, A, c⟩) (c' : Nat) : LOk w k cells ⟨l.take n, A, c'⟩ := by
  refine ⟨Nat.le_trans (by simp only [List.length_take]; omega) h.1, ?_⟩
  rcases h.2 with h0 | ⟨g, o, e, hl, hc⟩
  · have h0' : l = [] := h0
    exact .inl (by simp [h0'])
  · refine .inr ⟨g, o, e, hl, fun i hi j hj => ?_⟩
    have hi' : i < (l.take n).length := hi
    rw [List.length_take] at hi'
    rw [hc i (by simp only; omega) j hj]
    simp
theorem LOk.dropO {w : World} {k : Nat} {α : Type} {cells : α → List Value} {l : List α} {ad : Addr} {c n : Nat} (h : LOk w k cells ⟨l, some ad, c⟩) (c' : Nat) : LOk w k cells ⟨l.drop n, some (ad.add (n * k)), c'⟩ := by
  refine ⟨Nat.le_trans (by simp only [List.length_drop]; omega) h.1, ?_⟩
  rcases h.2 with h0 | ⟨g, o, e, hl, hc⟩
  · have h0' : l = [] := h0
    exact .inl (by simp [h0'])
  · cases e
    refine .inr ⟨g, o + n * k, by rw [Addr.add_lit], hl, fun i hi j hj => ?_⟩
    have hi' : i < (l.drop n).length := hi
    rw [List.length_drop] at hi'
    have h2 := hc (n + i) (by simp only; omega) j hj
    rw [Nat.add_mul, ← Nat.add_assoc] at h2
    rw [h2]
    simp
set_option maxRecDepth 100000 in
set_option maxHeartbeats 1000000 in
theorem law_joins (p : ProgD) (a b : ByteArray) (w : World) (o : ProgOk w p) (hc : ProgCap p) (hcc : CtlCaps p.control.l) (ha : a.size ≤ maxLen) (hb : b.size ≤ maxLen) (hm : ∃ m, w.cell? ⟨0, 0, none⟩ = some (.int .i64 m)) (ht : Tab w) :
    Calls Tryz.prog 6 #[.agg (progCells p), .string a, .string b] w fun e w' => e = .returned (.bool true) ∧ Below w.heap.size w w' := by
  have hmi : MaxI w := by
    refine ⟨?_, hm⟩
    obtain ⟨m, hm⟩ := hm
    rcases Nat.eq_zero_or_pos w.heap.size with h | h
    · have : w.cell? ⟨0, 0, none⟩ = none := by simp [World.cell?, Array.getElem?_eq_none_iff.2 (show w.heap.size ≤ 0 by omega)]
      rw [this] at hm; cases hm
    · exact h
  obtain ⟨W, hW, hw, b0⟩ : ∃ W, W = w.alloc (.cells (progCells p) 31) ∧ Below w.heap.size w W ∧ Blk W w.heap.size 31 (progCells p) := ⟨_, rfl, below1 _ _, Blk.new _ _ _⟩
  have HW := Lib.hid hw
  have HP := Lib.hid b0
  have HO := Lib.hid (o.below hw)
  have HT := Lib.hid (ht.base hw)
  have HM := Lib.hid (hmi.below hw (Nat.le_refl _))
  have HSM := Lib.hid (small22_any p W HO.out hcc)
  have HAW := Lib.hid (fun u (h : Below W.heap.size W u) => awake_any u (HT.out.base h) (HM.out.below h (Nat.le_refl _)))
  have HC := Lib.hid hc
  clear hw b0 o hc hcc hm hmi ht
  unfold maxLen at ha hb
  have hp3 : ∀ i, W.cell? ⟨w.heap.size, i, none⟩ = (progCells p)[i]? := fun i => HP.out.cell i
  go_enter Tryz.func6, Tryz.ntmps6
  go_upto_region 1 with fail
  rw [← hW]
  clear hW
  go_wp2_with fail
  refine HSM.out.mono ?_
  rintro r w1 ⟨⟨bs, rfl, hbs⟩, hb1⟩
  have H1 := Lib.hid hb1
  have HSS := Lib.hid hbs
  clear hb1 hbs HSM hp3
  cases bs with
  | false =>
    go_wp2_with fail
    refine (HAW.out w1 H1.out).mono ?_
    rintro r w9 ⟨rfl, hb9⟩
    have H9 := Lib.hid (below_step H1.out hb9)
    clear hb9
    go_wp2
    go_ret
    exact ⟨rfl, below_step HW.out H9.out⟩
  | true =>
    by_cases hla : 2000 < a.size
    · have e1 : decide ((2000 : Int) < (a.size : Int)) = true := decide_eq_true (by omega)
      have e2 : decide (2000 < a.size) = true := decide_eq_true hla
      go_wp2_with fail
      refine (HAW.out w1 H1.out).mono ?_
      rintro r w9 ⟨rfl, hb9⟩
      have H9 := Lib.hid (below_step H1.out hb9)
      clear hb9
      go_wp2
      go_ret
      exact ⟨rfl, below_step HW.out H9.out⟩
    have e1 : decide ((2000 : Int) < (a.size : Int)) = false := decide_eq_false (by omega)
    have e2 : decide (2000 < a.size) = false := decide_eq_false hla
    by_cases hlb : 2000 < b.size
    · have e3 : decide ((2000 : Int) < (b.size : Int)) = true := decide_eq_true (by omega)
      have e4 : decide (2000 < b.size) = true := decide_eq_true hlb
      go_wp2_with fail
      refine (HAW.out w1 H1.out).mono ?_
      rintro r w9 ⟨rfl, hb9⟩
      have H9 := Lib.hid (below_step H1.out hb9)
      clear hb9
      go_wp2
      go_ret
      exact ⟨rfl, below_step HW.out H9.out⟩
    have e3 : decide ((2000 : Int) < (b.size : Int)) = false := decide_eq_false (by omega)
    have e4 : decide (2000 < b.size) = false := decide_eq_false hlb
    have HG := Lib.hid ((HSS.out rfl).good HO.out HC.out)
    have HSA := Lib.hid (fun (s : ByteArray) u (hb : Below W.heap.size W u) => oscript_any p s u (HG.out.below hb) (HT.out.base hb) (HM.out.below hb (Nat.le_refl _)))
    have HJ := Lib.hid (scripts_join p a.data.toList b.data.toList)
    have HS1 := Lib.hid (HSA.out a w1 H1.out)
    have HS2 := Lib.hid (fun u h => HSA.out b u h)
    have HS3 := Lib.hid (fun u h => HSA.out (a ++ ⟨#[10]⟩ ++ b) u h)
    rw [show (a ++ (⟨#[10]⟩ : ByteArray) ++ b).data.toList = a.data.toList ++ 10 :: b.data.toList by simp] at HS3
    have HLn : Hid (a.data.toList.length + 1 + b.data.toList.length ≤ 16384) := Lib.hid (show a.size + 1 + b.size ≤ 16384 by omega)
    unfold ScriptEnd at HS1 HS2 HS3
    generalize scriptM p (a.data.toList ++ 10 :: b.data.toList) = R3 at *
    generalize scriptM p a.data.toList = R1 at *
    generalize scriptM p b.data.toList = R2 at *
    obtain ⟨R1l, R1n, R1e⟩ := R1
    obtain ⟨R2l, R2n, R2e⟩ := R2
    simp only at HS1 HS2 HJ
    have hp3 : ∀ i, w1.cell? ⟨w.heap.size, i, none⟩ = (progCells p)[i]? := fun i => (HP.out.below H1.out HP.out.lt).cell i
    go_wp2_with fail
    refine HS1.out.mono ?_
    rintro r w2 ⟨⟨l1, A1, c1⟩, rfl, h1b, h1l, h1o, h1c, hb2⟩
    have H2 := Lib.hid (below_step H1.out hb2)
    have HL1 := Lib.hid h1l
    have HL1o := Lib.hid h1o
    have HL1b := Lib.hid h1b
    have HC1 := Lib.hid h1c
    clear h1b h1l h1o h1c hb2 HS1 hp3
    have hp3 : ∀ i, w2.cell? ⟨w.heap.size, i, none⟩ = (progCells p)[i]? := fun i => (HP.out.below H2.out HP.out.lt).cell i
    try simp only
    go_wp2_with fail
    refine (HS2.out w2 H2.out).mono ?_
    rintro r w3 ⟨⟨l2, A2, c2⟩, rfl, h2b, h2l, h2o, h2c, hb3⟩
    have H3 := Lib.hid (below_step H2.out hb3)
    have HL2 := Lib.hid h2l
    have HL2o := Lib.hid h2o
    have HL2b := Lib.hid h2b
    have HB3 := Lib.hid hb3
    clear h2b h2l h2o h2c hb3 HS2 hp3
    try simp only
    by_cases hz1 : R1e = 0
    case neg =>
      have q1 : (R1e != 0) = true := bne_iff_ne.2 hz1
      go_wp2_with fail
      refine (HAW.out w3 H3.out).mono ?_
      rintro r w9 ⟨rfl, hb9⟩
      have H9 := Lib.hid (below_step H3.out hb9)
      clear hb9
      go_wp2
      go_ret
      exact ⟨rfl, below_step HW.out H9.out⟩
    by_cases hz2 : R2e = 0
    case neg =>
      subst hz1
      have q1 : (R2e != 0) = true := bne_iff_ne.2 hz2
      go_wp2_with fail
      refine (HAW.out w3 H3.out).mono ?_
      rintro r w9 ⟨rfl, hb9⟩
      have H9 := Lib.hid (below_step H3.out hb9)
      clear hb9
      go_wp2
      go_ret
      exact ⟨rfl, below_step HW.out H9.out⟩
    have HR3 := Lib.hid (HJ.out hz1 hz2 HLn.out)
    subst hz1 hz2
    rw [HR3.out] at HS3
    clear HJ HR3
    have hp3 : ∀ i, w3.cell? ⟨w.heap.size, i, none⟩ = (progCells p)[i]? := fun i => (HP.out.below H3.out HP.out.lt).cell i
    have n1 : ¬ (a.size + 1 > 9223372036854775807) := by omega
    have n2 : ¬ (a.size + 1 + b.size > 9223372036854775807) := by omega
    go_wp2_with fail
    refine (HS3.out w3 H3.out).mono ?_
    rintro r w4 ⟨⟨l3, A3, c3⟩, rfl, h3b, h3l, h3o, h3c, hb4⟩
    have H4 := Lib.hid (below_step H3.out hb4)
    try simp only at h3b
    try simp only at h3l
    try simp only at h3o
    try simp only at h3c
    rw [← HL1b.out, ← HL2b.out] at h3b
    try simp only at h3b
    have hlen : l3.length = l1.length + l2.length := by have := congrArg List.length h3b; simpa using this
    have m1 : l3.length ≤ 9223372036854775807 := h3l.1
    have HL1x := Lib.hid (HL1.out.below (HB3.out.trans (hb4.mono HB3.out.size)) (Nat.le_refl _))
    have HL2x := Lib.hid (HL2.out.below hb4 (Nat.le_refl _))
    have HL1y : Hid (∀ o ∈ l1, OpOk w4 o) := Lib.hid (fun o ho => ((HL1o.out o ho).below HB3.out).below hb4)
    have HL2y : Hid (∀ o ∈ l2, OpOk w4 o) := Lib.hid (fun o ho => (HL2o.out o ho).below hb4)
    have HL3 := Lib.hid h3l
    have HL3y := Lib.hid h3o
    have HL3b := Lib.hid h3b
    clear hb4 h3b h3l h3o HL1 HL2 HL1o HL2o HL1b HL2b HS3 hp3 n1 n2 HB3
    cases A3 with
    | none =>
      have h30 : l3 = [] := by
        rcases HL3.out.2 with h | ⟨g, o, e, _⟩
        · exact h
        · cases e
      have h10 : l1 = [] := List.eq_nil_of_length_eq_zero (by rw [h30] at hlen; simp only [List.length_nil] at hlen; omega)
      have h20 : l2 = [] := List.eq_nil_of_length_eq_zero (by rw [h30] at hlen; simp only [List.length_nil] at hlen; omega)
      subst h30 h10 h20
      subst h3c
      have HE1 : Hid (∀ u, Calls Tryz.prog 17 #[.slice none 0 0, .slice A1 0 c1] u fun e w' => e = .returned (.bool true) ∧ Below u.heap.size u w') := Lib.hid (fun u =>
        reqOps_n (x := ⟨[], none, 0⟩) (y := ⟨[], A1, c1⟩) 0 rfl rfl (nilLO _ _ _) ⟨Nat.zero_le _, .inl rfl⟩ (fun o ho => by cases ho) (fun o ho => by cases ho) rfl)
      have HE2 : Hid (∀ u, Calls Tryz.prog 17 #[.slice none 0 0, .slice A2 0 c2] u fun e w' => e = .returned (.bool true) ∧ Below u.heap.size u w') := Lib.hid (fun u =>
        reqOps_n (x := ⟨[], none, 0⟩) (y := ⟨[], A2, c2⟩) 0 rfl rfl (nilLO _ _ _) ⟨Nat.zero_le _, .inl rfl⟩ (fun o ho => by cases ho) (fun o ho => by cases ho) rfl)
      clear HL3 HL3y HL3b HL1x HL2x HL1y HL2y hlen m1
      simp only [List.length_nil]
      go_upto_region 8 with fail
      go_wp2_with fail
      refine (HE1.out w4).mono ?_
      rintro r w5 ⟨rfl, hb5⟩
      have HB5 := Lib.hid hb5
      clear hb5
      go_wp2_with fail
      refine (HE2.out w5).mono ?_
      rintro r w6 ⟨rfl, hb6⟩
      have HB6 := Lib.hid (below_step H4.out (below_step HB5.out hb6))
      clear hb6
      go_wp2_with fail
      refine (HAW.out w6 HB6.out).mono ?_
      rintro r w9 ⟨rfl, hb9⟩
      have H9 := Lib.hid (below_step HB6.out hb9)
      clear hb9
      go_wp2
      go_ret
      exact ⟨rfl, below_step HW.out H9.out⟩
    | some ad =>
      obtain ⟨ag, ao, ap⟩ := ad
      have HE1 : Hid (∀ u, Below w4.heap.size w4 u → ∀ n3 n1, n1 = l1.length → Calls Tryz.prog 17 #[.slice (some ⟨ag, ao, ap⟩) n1 n3, .slice A1 n1 c1] u fun e w' => e = .returned (.bool true) ∧ Below u.heap.size u w') := Lib.hid (fun u hu n3 n1 hn =>
        reqOps_n (x := ⟨l3.take l1.length, some ⟨ag, ao, ap⟩, n3⟩) (y := ⟨l1, A1, c1⟩) n1 (by simp only [List.length_take]; omega) hn.symm ((HL3.out.takeO n3).below hu (Nat.le_refl _))
          (HL1x.out.below hu (Nat.le_refl _)) (fun o ho => (HL3y.out o (List.mem_of_mem_take ho)).below hu)
          (fun o ho => (HL1y.out o ho).below hu) (by simp only [List.map_take, HL3b.out]; simp))
      have HE2 : Hid (∀ u, Below w4.heap.size w4 u → ∀ n3 n2, n2 = l2.length → Calls Tryz.prog 17 #[.slice (some ((⟨ag, ao, ap⟩ : Addr).add (l1.length * 9))) n2 n3, .slice A2 n2 c2] u fun e w' => e = .returned (.bool true) ∧ Below u.heap.size u w') := Lib.hid (fun u hu n3 n2 hn => by
        exact reqOps_n (x := ⟨l3.drop l1.length, some ((⟨ag, ao, ap⟩ : Addr).add (l1.length * 9)), n3⟩) (y := ⟨l2, A2, c2⟩) n2 (by simp only [List.length_drop]; omega) hn.symm ((HL3.out.dropO n3).below hu (Nat.le_refl _))
          (HL2x.out.below hu (Nat.le_refl _)) (fun o ho => (HL3y.out o (List.mem_of_mem_drop ho)).below hu)
          (fun o ho => (HL2y.out o ho).below hu) (by simp only [List.map_drop, HL3b.out]; simp))
      have HE3 : Hid (∀ u, Below w4.heap.size w4 u → ∀ n3, l2.length = 0 → Calls Tryz.prog 17 #[.slice (some ⟨ag, ao, ap⟩) 0 n3, .slice A2 0 c2] u fun e w' => e = .returned (.bool true) ∧ Below u.heap.size u w') := Lib.hid (fun u hu n3 hn => by
        have h2 : l2 = [] := List.eq_nil_of_length_eq_zero hn
        subst h2
        exact reqOps_n (x := ⟨[], some ⟨ag, ao, ap⟩, n3⟩) (y := ⟨[], A2, c2⟩) 0 rfl rfl ⟨Nat.zero_le _, .inl rfl⟩ ⟨Nat.zero_le _, .inl rfl⟩ (fun o ho => by cases ho) (fun o ho => by cases ho) rfl)
      clear HL3 HL3y HL3b HL1x HL2x HL1y HL2y
      subst h3c
      generalize l3.length = n3 at *
      generalize l1.length = n1 at *
      generalize l2.length = n2 at *
      subst hlen
      have HB0 := Lib.hid (Below.refl w4.heap.size w4)
      rcases Nat.eq_zero_or_pos n2 with rfl | hpos
      · rw [Nat.add_zero]
        go_upto_region 8 with fail
        go_wp2_with fail
        refine (HE1.out w4 HB0.out _ _ (by omega)).mono ?_
        rintro r w5 ⟨rfl, hb5⟩
        have HB5 := Lib.hid hb5
        clear hb5
        go_wp2_with fail
        all_goals refine (HE3.out w5 HB5.out _ (by trivial)).mono ?_
        all_goals rintro r w6 ⟨rfl, hb6⟩
        all_goals have HB6 := Lib.hid (below_step H4.out (below_step HB5.out hb6))
        all_goals clear hb6
        all_goals go_wp2_with fail
        all_goals refine (HAW.out w6 HB6.out).mono ?_
        all_goals rintro r w9 ⟨rfl, hb9⟩
        all_goals have H9 := Lib.hid (below_step HB6.out hb9)
        all_goals clear hb9
        all_goals go_wp2
        all_goals go_ret
        all_goals exact ⟨rfl, below_step HW.out H9.out⟩
      · have hne : ¬ n2 = 0 := by omega
        have hnn : ((n1 : Int) + (n2 : Int) == ((n1 + n2 : Nat) : Int)) = true := by rw [beq_iff_eq]; omega
        go_upto_region 8 with fail
        go_wp2_with fail
        refine (HE1.out w4 HB0.out _ _ (by omega)).mono ?_
        rintro r w5 ⟨rfl, hb5⟩
        have HB5 := Lib.hid hb5
        clear hb5
        go_wp2_with fail
        all_goals refine (HE2.out w5 HB5.out _ _ rfl).mono ?_
        all_goals rintro r w6 ⟨rfl, hb6⟩
        all_goals have HB6 := Lib.hid (below_step H4.out (below_step HB5.out hb6))
        all_goals clear hb6
        all_goals go_wp2_with fail
        all_goals refine (HAW.out w6 HB6.out).mono ?_
        all_goals rintro r w9 ⟨rfl, hb9⟩
        all_goals have H9 := Lib.hid (below_step HB6.out hb9)
        all_goals clear hb9
        all_goals go_wp2
        all_goals go_ret
        all_goals exact ⟨rfl, below_step HW.out H9.out⟩
end Go.Proofs.YtofjapcgbajmiaaGreatDoor
